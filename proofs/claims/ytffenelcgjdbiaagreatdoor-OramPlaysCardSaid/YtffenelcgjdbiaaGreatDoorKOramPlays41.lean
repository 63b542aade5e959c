/- Merged by a program of mine (pack.py) out of my own texts; what is not used is left out. -/
import Derived.Test.YtffenelcgjdbiaaGreatDoorKOramPlays40
set_option linter.unusedVariables false
set_option linter.unusedSimpArgs false
namespace Go.Sim.Co
open Go
def dg : Nat → Nat → List Nat
  | 0, _ => []
  | f + 1, n => match n with
    | 0 => []
    | k + 1 => (k + 1) % 16 :: dg f ((k + 1) / 16)
abbrev Rd (α : Type) := List Nat → α × List Nat
def rK : Nat → Rd Nat
  | 0, l => (0, l)
  | k + 1, l => match l with
    | [] => (0, [])
    | g :: u => match rK k u with | (a, r) => (g + 16 * a, r)
def rN : Rd Nat
  | [] => (0, [])
  | h :: t => bif Nat.blt h 8 then (h, t) else match t with
    | [] => (0, [])
    | g :: u => bif Nat.blt h 15 then ((h - 8) * 16 + g + 8, u) else bif Nat.beq g 0 then rK 17 u else rK g u
def rR {α : Type} (d : Rd α) : Nat → Rd (List α)
  | 0, l => ([], l)
  | n + 1, l => match d l with | (a, r) => match rR d n r with | (s, u) => (a :: s, u)
def rL {α : Type} (d : Rd α) : Rd (List α) := fun l => match rN l with | (n, r) => rR d n r
def rB : Rd Bool := fun l => match rN l with | (n, r) => (Nat.beq n 1, r)
def rI : Rd Int := fun l => match rN l with | (n, r) => (bif Nat.beq (n % 2) 0 then Int.ofNat (n / 2) else Int.negSucc (n / 2), r)
def kOf : Nat → IntKind
  | 0 => .i64 | 1 => .u8 | 2 => .u64 | 3 => .u32 | 4 => .i32 | 5 => .i8 | 6 => .i16 | _ => .u16
def rKd : Rd IntKind := fun l => match rN l with | (n, r) => (kOf n, r)
def rO {α : Type} (d : Rd α) : Rd (Option α) := fun l => match rN l with
  | (0, r) => (none, r)
  | (_, r) => match d r with | (a, u) => (some a, u)
def rP {α β : Type} (d : Rd α) (e : Rd β) : Rd (α × β) := fun l => match d l with | (a, r) => match e r with | (b, u) => ((a, b), u)
def rv (d : Rd V) : Rd (List V) := fun l => match rL (rP rN d) l with | (a, r) => (a.flatMap fun p => List.replicate p.1 p.2, r)
def rV : Nat → Rd V
  | 0, l => (.nilp, l)
  | f + 1, l => match rN l with
    | (0, r) => match rB r with | (b, u) => (.bool b, u)
    | (1, r) => match rP rKd rI r with | (p, u) => (.int p.1 p.2, u)
    | (2, r) => match rL rN r with | (s, u) => (.str (s.map UInt8.ofNat), u)
    | (3, r) => match rN r with | (n, u) => (.lst n [] .nil, u)
    | (4, r) => (.nilp, r)
    | (5, r) => (.nilm, r)
    | (6, r) => (.nilf, r)
    | (7, r) => (.nili, r)
    | (8, r) => match rv (rV f) r with | (s, u) => (.agg s, u)
    | (9, r) => (.tup [], r)
    | (10, r) => match rN r with | (n, u) => (.float .f64 n, u)
    | (_, r) => match rN r with | (n, u) => (.float .f32 n, u)
def rVs : Rd (List V) := rv (rV 3)
def rA : Rd AO := fun l => match rN l with
  | (0, r) => match rV 3 r with | (v, u) => (.c v, u)
  | (1, r) => match rN r with | (f, u) => (.f f, u)
  | (n + 2, r) => (.t n, r)
def rAO : Rd (Option AO) := fun l => match rN l with
  | (0, r) => (none, r)
  | (1, r) => match rV 3 r with | (v, u) => (some (.c v), u)
  | (2, r) => match rN r with | (f, u) => (some (.f f), u)
  | (n + 3, r) => (some (.t n), r)
def rSc : Rd Sc := fun l => match rN l with
  | (0, r) => (.ki .i64, r)
  | (1, r) => (.bo, r)
  | (2, r) => (.pt, r)
  | (3, r) => match rN r with | (n, u) => (.ls n, u)
  | (4, r) => (.ki .u8, r)
  | (5, r) => (.ki .u64, r)
  | (6, r) => (.ki .u32, r)
  | (7, r) => (.mp, r)
  | (8, r) => (.sr, r)
  | (9, r) => match rN r with | (n, u) => (.rf n, u)
  | (10, r) => (.av, r)
  | (11, r) => (.fu, r)
  | (12, r) => (.ki .i32, r)
  | (13, r) => (.ki .i8, r)
  | (14, r) => (.ki .i16, r)
  | (_, r) => (.ki .u16, r)
def rS1 : Rd Sh1 := fun l => match rN l with
  | (0, r) => match rSc r with | (s, u) => (.sc s, u)
  | (1, r) => match rL rSc r with | (s, u) => (.a s, u)
  | (_, r) => (.g, r)
def rSh : Rd Sh := fun l => match rN l with
  | (0, r) => match rSc r with | (s, u) => (.one (.sc s), u)
  | (1, r) => match rL rS1 r with | (s, u) => (.t s, u)
  | (2, r) => match rL rSc r with | (s, u) => (.one (.a s), u)
  | (_, r) => (.one .g, r)
def rAn : Rd An := fun l => match rN l with
  | (0, r) => (.d, r)
  | (1, r) => match rSh r with | (s, u) => (.n s, u)
  | (2, r) => match rSh r with | (s, u) => (.c s false, u)
  | (_, r) => match rSh r with | (s, u) => (.c s true, u)
def bOf : Nat → BinOp
  | 0 => .add | 1 => .lss | 2 => .sub | 3 => .mul | 4 => .eql | 5 => .gtr | 6 => .geq | 7 => .neq | 8 => .shr | 9 => .and | 10 => .xor | 11 => .leq | 12 => .quo | 13 => .shl | 14 => .or | 15 => .rem | _ => .andNot
def uOf : Nat → UnOp
  | 0 => .not | 1 => .neg | 2 => .xor | _ => .plus
def rOp : Rd AOp := fun l => match rN l with
  | (0, r) => match rA r with | (x, u) => (.mv x, u)
  | (1, r) => match rN r with | (b, u) => match rA u with | (x, v) => match rA v with | (y, w) => (.bin (bOf b) x y, w)
  | (2, r) => match rN r with | (n, u) => match rB u with | (b, v) => match rA v with | (x, w) => (.ld n b x, w)
  | (3, r) => match rN r with | (n, u) => match rA u with | (x, v) => (.fa n x, v)
  | (4, r) => match rA r with | (x, u) => (.nilc x, u)
  | (5, r) => match rA r with | (x, u) => match rN u with | (n, v) => (.ext x n, v)
  | (6, r) => match rA r with | (x, u) => match rA u with | (y, v) => match rA v with | (z, w) => (.pick x y z, w)
  | (7, r) => match rN r with | (n, u) => match rA u with | (x, v) => match rA v with | (y, w) => (.sto n x y, w)
  | (8, r) => match rN r with | (n, u) => match rA u with | (x, v) => (.len n x, v)
  | (9, r) => match rKd r with | (k, u) => match rA u with | (x, v) => (.cint k x, v)
  | (10, r) => match rN r with | (n, u) => match rA u with | (x, v) => match rA v with | (y, w) => (.ia n x y, w)
  | (11, r) => match rN r with | (n, u) => match rA u with | (x, v) => (.un (uOf n) x, v)
  | (12, r) => match rVs r with | (z, u) => (.alloc z, u)
  | (13, r) => match rN r with | (n, u) => match rN u with | (m, v) => match rA v with | (x, w) => match rA w with | (y, e) => (.iaA n m x y, e)
  | (14, r) => match rA r with | (x, u) => (.box x, u)
  | (15, r) => match rVs r with | (z, u) => match rL (rP rN (rP rN rA)) u with | (p, v) => (.build z p, v)
  | (16, r) => match rN r with | (n, u) => match rA u with | (x, v) => match rAO v with | (a, w) => match rAO w with | (b, e) => match rAO e with | (c, g) => (.sl n x a b c, g)
  | (17, r) => match rN r with | (n, u) => match rL rA u with | (x, v) => (.lits n x, v)
  | (18, r) => match rN r with | (n, u) => match rN u with | (m, v) => match rB v with | (b, w) => match rA w with | (x, e) => match rA e with | (y, g) => (.app n m b x y, g)
  | (19, r) => match rN r with | (n, u) => match rN u with | (m, v) => match rA v with | (x, w) => match rAO w with | (a, e) => match rAO e with | (b, g) => (.slA n m x a b, g)
  | (20, r) => match rB r with | (b, u) => match rL rA u with | (x, v) => (.mm b x, v)
  | (21, r) => match rN r with | (n, u) => match rB u with | (b, v) => match rA v with | (x, w) => match rA w with | (y, e) => (.eqv n b x y, e)
  | (22, r) => match rV 3 r with | (z, u) => match rA u with | (x, v) => match rA v with | (y, w) => match rB w with | (b, e) => (.look z x y b, e)
  | (23, r) => match rN r with | (n, u) => match rA u with | (x, v) => match rA v with | (y, w) => (.cpy n x y, w)
  | (24, r) => match rN r with | (n, u) => match rN u with | (m, v) => match rV 3 v with | (z, w) => match rB w with | (b, e) => match rA e with | (x, g) => match rA g with | (y, h) => (.mks n m z b x y, h)
  | (25, r) => match rA r with | (x, u) => (.b2s x, u)
  | (26, r) => (.mkm, r)
  | (27, r) => match rA r with | (x, u) => match rA u with | (y, v) => match rA v with | (z, w) => (.mup x y z, w)
  | (28, r) => match rN r with | (n, u) => match rA u with | (x, v) => (.mki n x, v)
  | (29, r) => match rN r with | (n, u) => match rL rA u with | (x, v) => (.mkf n x, v)
  | (30, r) => match rA r with | (x, u) => (.mark x, u)
  | (31, r) => match rN r with | (n, u) => match rN u with | (m, v) => match rV 3 v with | (z, w) => match rA w with | (x, e) => match rA e with | (y, g) => (.appz n m z x y, g)
  | (32, r) => match rA r with | (x, u) => (.capv x, u)
  | (33, r) => match rA r with | (x, u) => match rA u with | (y, v) => (.ixS x y, v)
  | (34, r) => match rA r with | (x, u) => match rA u with | (y, v) => (.del x y, v)
  | (35, r) => match rN r with | (n, u) => match rN u with | (m, v) => match rB v with | (b, w) => match rA w with | (x, e) => (.fld n m b x, e)
  | (36, r) => match rN r with | (n, u) => match rN u with | (m, v) => match rA v with | (x, w) => (.arr n m x, w)
  | (37, r) => match rN r with | (n, u) => match rN u with | (m, v) => match rB v with | (b, w) => match rA w with | (x, e) => match rA e with | (y, g) => (.ixA n m b x y, g)
  | (38, r) => match rN r with | (k, u) => match rN u with | (n, v) => match rN v with | (m, w) => match rA w with | (x, e) => (.iaG k n m tabV x, e)
  | (39, r) => match rA r with | (x, u) => (.cid x, u)
  | (40, r) => match rA r with | (x, u) => (.s2b x, u)
  | (41, r) => match rA r with | (x, u) => match rAO u with | (a, v) => match rAO v with | (b, w) => (.slS x a b, w)
  | (_, r) => match rN r with | (n, u) => (.lenA n, u)
def rSO : Rd SOp := fun l => match rN l with
  | (0, r) => match rOp r with | (o, u) => (.op o, u)
  | (1, r) => match rN r with | (f, u) => match rL rA u with | (x, v) => (.call f x, v)
  | (2, r) => match rA r with | (f, u) => match rL rA u with | (x, v) => (.callv f x, v)
  | (3, r) => match rA r with | (x, u) => (.pan x, u)
  | (4, r) => match rN r with | (n, u) => match rN u with | (m, v) => match rV 3 v with | (z, w) => match rB w with | (b, e) => match rA e with | (x, g) => match rA g with | (y, h) => (.appm n m z b x y, h)
  | (_, r) => match rB r with | (b, u) => match rA u with | (x, v) => (.nilq b x, v)
def rAS : Rd AS := fun l => match rO rN l with | (d, r) => match rO (rP rN rB) r with | (g, u) => match rSO u with | (o, v) => (⟨d, g, o⟩, v)
def rRS : Rd RS := fun l => match rN l with
  | (0, r) => match rN r with | (d, u) => match rA u with | (x, v) => (⟨⟨some d, none, .op (.mv x)⟩, .d, false⟩, v)
  | (1, r) => match rN r with | (d, u) => match rOp u with | (o, v) => (⟨⟨some d, none, .op o⟩, .d, false⟩, v)
  | (2, r) => match rN r with | (d, u) => match rOp u with | (o, v) => match rSh v with | (s, w) => (⟨⟨some d, none, .op o⟩, .n s, false⟩, w)
  | (3, r) => match rOp r with | (o, v) => match rSh v with | (s, w) => (⟨⟨none, none, .op o⟩, .n s, false⟩, w)
  | (4, r) => match rN r with | (d, u) => match rN u with | (f, v) => match rL rA v with | (x, w) => match rSh w with | (s, e) => (⟨⟨some d, none, .call f x⟩, .c s false, false⟩, e)
  | (5, r) => match rN r with | (d, u) => match rP rN rB u with | (g, v) => match rOp v with | (o, w) => (⟨⟨some d, some g, .op o⟩, .d, true⟩, w)
  | (6, r) => match rN r with | (d, u) => match rP rN rB u with | (g, v) => match rOp v with | (o, w) => (⟨⟨some d, some g, .op o⟩, .d, false⟩, w)
  | (7, r) => match rAS r with | (s, u) => match rAn u with | (a, v) => match rB v with | (b, w) => (⟨s, a, b⟩, w)
  | (_, r) => match rN r with | (d, u) => match rP rN rB u with | (g, v) => match rOp v with | (o, w) => match rSh w with | (s, e) => (⟨⟨some d, some g, .op o⟩, .n s, true⟩, e)
def rRD : Rd RD := fun l => match rN l with
  | (0, r) => match rN r with | (i, u) => match rRS u with | (s, v) => (.fl i s, v)
  | (1, r) => match rN r with | (i, u) => match rRS u with | (s, v) => match rL (rP rN rAS) v with | (e, w) => (.an i s e, w)
  | (_, r) => match rN r with | (i, u) => match rAS u with | (s, v) => (.al i s, v)
def rNs : Rd (List Nat) := rL rN
def rX : Rd RSX := fun l => match rN l with
  | (0, r) => match rRS r with | (s, u) => (.one s, u)
  | (_, r) => match rL rRS r with | (s, u) => match rNs u with | (a, v) => match rNs v with | (b, w) => match rL rS1 w with | (h, e) => (.grp s a b h, e)
def rDX : Rd RDX := fun l => match rN l with
  | (0, r) => match rRD r with | (s, u) => (.one s, u)
  | (_, r) => match rL rRD r with | (s, u) => match rNs u with | (a, v) => match rNs v with | (b, w) => match rL rS1 w with | (h, e) => (.grp s a b h, e)
def rAR : Nat → Rd AR
  | 0, l => (.skip, l)
  | f + 1, l => match rN l with
    | (0, r) => match rAR f r with | (a, u) => match rAR f u with | (b, v) => (.seq a b, v)
    | (1, r) => match rL (fun l => match rRS l with | (s, u) => (RSX.one s, u)) r with | (s, u) => (.reg s, u)
    | (2, r) => match rNs r with | (n, u) => match rAR f u with | (a, v) => (.only n a, v)
    | (3, r) => (.ret, r)
    | (4, r) => match rA r with | (x, u) => match rB u with | (b, v) => match rAR f v with | (c, w) => match rAR f w with | (d, e) => (.cond x b c d, e)
    | (5, r) => (.skip, r)
    | (6, r) => match rN r with | (i, u) => match rAR f u with | (a, v) => (.block i a, v)
    | (7, r) => match rN r with | (i, u) => (.exit i, u)
    | (8, r) => match rNs r with | (n, u) => match rN u with | (i, v) => match rN v with | (j, w) => match rL rDX w with | (d, e) => (.dreg n i j d, e)
    | (9, r) => match rNs r with | (n, u) => match rNs u with | (m, v) => match rL rS1 v with | (h, w) => match rAR f w with | (a, e) => (.loop n m h a, e)
    | (10, r) => match rNs r with | (n, u) => match rNs u with | (m, v) => match rL rS1 v with | (h, w) => match rAR f w with | (a, e) => match rAR f e with | (b, g) => (.seqK n m h a b, g)
    | (11, r) => match rN r with | (t, u) => match rB u with | (b, v) => match rAR f v with | (a, w) => (.frz t b a, w)
    | (_, r) => match rL rX r with | (s, u) => (.reg s, u)
def _root_.Go.Sim.arOf (n : Nat) : AR := (rAR 400 (dg 100000 n)).1
end Go.Sim.Co
