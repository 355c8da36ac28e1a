/- The engine, text A. -/
import Derived.WalkKit
import Derived.WalkSpells
set_option linter.unusedSimpArgs false
set_option linter.unusedVariables false
namespace Go.Cap
open Go
inductive RV where
  | n (k : IntKind) (x : Int)
  | b (x : Bool)
  | s (l : List UInt8)
  | nil
  | ro (g : Option Nat) (L : List (List RV))
  | j
  deriving Inhabited
inductive AV where
  | r (x : RV)
  | ptr (b i f : Nat)
  | sl (b st n : Nat)
  | rp (cs : List RV) (f : Nat)
  | agg (cs : List AV)
  | tup (vs : List AV)
  | fn (f : Nat) (caps : List AV)
  | junk
  deriving Inhabited
inductive Blk where
  | var (cs : List AV)
  | row (sz : Nat) (L : List (List RV))
  deriving Inhabited
structure St where
  sl : List (Nat × AV)
  hp : List (Nat × Blk)
  nx : Nat
  gs : List Nat
abbrev AV.i (x : Int) : AV := .r (.n .i64 x)
abbrev AV.bo (x : Bool) : AV := .r (.b x)
abbrev AV.st (x : List UInt8) : AV := .r (.s x)
def get : List (Nat × AV) → Nat → AV
  | [], _ => .junk
  | (j, v) :: l, i => if j = i then v else get l i
def hget : List (Nat × Blk) → Nat → Option Blk
  | [], _ => none
  | (j, v) :: l, i => if j = i then some v else hget l i
def hset : List (Nat × Blk) → Nat → Blk → List (Nat × Blk)
  | [], b, x => [(b, x)]
  | (j, v) :: l, b, x => if j = b then (b, x) :: l else (j, v) :: hset l b x
def hdel : List (Nat × Blk) → Nat → List (Nat × Blk)
  | [], _ => []
  | (j, v) :: l, b => if j = b then hdel l b else (j, v) :: hdel l b
def cget : List RV → Nat → RV
  | [], _ => .nil
  | x :: _, 0 => x
  | _ :: l, i + 1 => cget l i
def aget : List AV → Nat → AV
  | [], _ => .junk
  | x :: _, 0 => x
  | _ :: l, i + 1 => aget l i
def csub (cs : List RV) (f n : Nat) : List RV := (cs.drop f).take n
def asub (cs : List AV) (f n : Nat) : List AV := (cs.drop f).take n
@[go_sem] theorem get_nil (i : Nat) : get [] i = .junk := (rfl)
@[go_sem] theorem get_cons (j : Nat) (v : AV) (l : List (Nat × AV)) (i : Nat) : get ((j, v) :: l) i = if j = i then v else get l i := (rfl)
@[go_sem] theorem hget_nil (i : Nat) : hget [] i = none := (rfl)
@[go_sem] theorem hget_cons (j : Nat) (v : Blk) (l : List (Nat × Blk)) (i : Nat) : hget ((j, v) :: l) i = if j = i then some v else hget l i := (rfl)
@[go_sem] theorem hset_nil (b : Nat) (x : Blk) : hset [] b x = [(b, x)] := (rfl)
@[go_sem] theorem hset_cons (j : Nat) (v : Blk) (l : List (Nat × Blk)) (b : Nat) (x : Blk) : hset ((j, v) :: l) b x = if j = b then (b, x) :: l else (j, v) :: hset l b x := (rfl)
@[go_sem] theorem hdel_nil (b : Nat) : hdel [] b = [] := (rfl)
@[go_sem] theorem hdel_cons (j : Nat) (v : Blk) (l : List (Nat × Blk)) (b : Nat) : hdel ((j, v) :: l) b = if j = b then hdel l b else (j, v) :: hdel l b := (rfl)
@[go_sem] theorem cget_zero (x : RV) (l : List RV) : cget (x :: l) 0 = x := (rfl)
@[go_sem] theorem cget_succ (x : RV) (l : List RV) (i : Nat) : cget (x :: l) (i + 1) = cget l i := (rfl)
@[go_sem] theorem aget_zero (x : AV) (l : List AV) : aget (x :: l) 0 = x := (rfl)
@[go_sem] theorem aget_succ (x : AV) (l : List AV) (i : Nat) : aget (x :: l) (i + 1) = aget l i := (rfl)
def AV.cells : AV → Option (List AV)
  | .agg cs => some cs
  | .r x => some [.r x]
  | .ptr b i f => some [.ptr b i f]
  | .sl b st n => some [.sl b st n]
  | .rp cs f => some [.rp cs f]
  | .fn f c => some [.fn f c]
  | .tup _ => none
  | .junk => none
@[go_sem] theorem cells_agg (cs : List AV) : (AV.agg cs).cells = some cs := (rfl)
@[go_sem] theorem cells_r (x : RV) : (AV.r x).cells = some [.r x] := (rfl)
@[go_sem] theorem cells_ptr (b i f : Nat) : (AV.ptr b i f).cells = some [.ptr b i f] := (rfl)
@[go_sem] theorem cells_sl (b i f : Nat) : (AV.sl b i f).cells = some [.sl b i f] := (rfl)
@[go_sem] theorem cells_rp (cs : List RV) (f : Nat) : (AV.rp cs f).cells = some [.rp cs f] := (rfl)
@[go_sem] theorem cells_fn (f : Nat) (c : List AV) : (AV.fn f c).cells = some [.fn f c] := (rfl)
def rvs : List AV → Option (List RV)
  | [] => some []
  | .r x :: l => match rvs l with | some m => some (x :: m) | none => none
  | _ :: _ => none
theorem rvs_map (l : List RV) : rvs (l.map .r) = some l := by
  induction l with
  | nil => rfl
  | cons x l ih => simp [rvs, ih]
theorem rvs_spec : ∀ {l : List AV} {m : List RV}, rvs l = some m → l = m.map .r
  | [], m, h => by simp [rvs] at h; subst h; rfl
  | .r x :: l, m, h => by
    simp only [rvs] at h
    cases h' : rvs l with
    | none => simp [h'] at h
    | some m' => simp [h'] at h; subst h; simp [rvs_spec h']
  | .ptr .. :: _, _, h => by simp [rvs] at h
  | .sl .. :: _, _, h => by simp [rvs] at h
  | .rp .. :: _, _, h => by simp [rvs] at h
  | .agg .. :: _, _, h => by simp [rvs] at h
  | .tup .. :: _, _, h => by simp [rvs] at h
  | .fn .. :: _, _, h => by simp [rvs] at h
  | .junk :: _, _, h => by simp [rvs] at h
@[go_sem] theorem rvs_nil : rvs [] = some [] := (rfl)
@[go_sem] theorem rvs_map' (l : List RV) : rvs (l.map .r) = some l := rvs_map l
@[go_sem] theorem rvs_cons (x : RV) (l : List AV) : rvs (.r x :: l) = (rvs l).map (x :: ·) := by
  simp only [rvs]; cases rvs l <;> rfl
def lay (cs : List AV) (f : Nat) (vs : List AV) : List AV := match vs with
  | [v] => cs.set f v
  | vs => cs.take f ++ vs ++ cs.drop (f + vs.length)
def layR (cs : List RV) (f : Nat) (vs : List RV) : List RV := match vs with
  | [v] => cs.set f v
  | vs => cs.take f ++ vs ++ cs.drop (f + vs.length)
theorem lay_eq (cs : List AV) (f : Nat) (vs : List AV) (h : f + vs.length ≤ cs.length) : lay cs f vs = cs.take f ++ vs ++ cs.drop (f + vs.length) := by
  unfold lay
  split
  · rename_i v
    simp at h
    rw [List.set_eq_take_append_cons_drop]
    rw [if_pos (by omega)]
    simp
  · rfl
theorem layR_eq (cs : List RV) (f : Nat) (vs : List RV) (h : f + vs.length ≤ cs.length) : layR cs f vs = cs.take f ++ vs ++ cs.drop (f + vs.length) := by
  unfold layR
  split
  · rename_i v
    simp at h
    rw [List.set_eq_take_append_cons_drop]
    rw [if_pos (by omega)]
    simp
  · rfl
theorem lay_length (cs : List AV) (f : Nat) (vs : List AV) (h : f + vs.length ≤ cs.length) : (lay cs f vs).length = cs.length := by
  rw [lay_eq _ _ _ h]; simp; omega
inductive Opd where
  | t (i : Nat)
  | c (v : RV)
  | f (i : Nat)
  | j
  deriving Inhabited
def Opd.ev (s : List (Nat × AV)) : Opd → AV
  | .t i => get s i
  | .c x => .r x
  | .f i => .fn i []
  | .j => .junk
@[go_sem] theorem opd_j (s : List (Nat × AV)) : (Opd.j).ev s = .junk := (rfl)
@[go_sem] theorem opd_t (s : List (Nat × AV)) (i : Nat) : (Opd.t i).ev s = get s i := (rfl)
@[go_sem] theorem opd_c (s : List (Nat × AV)) (x : RV) : (Opd.c x).ev s = .r x := (rfl)
@[go_sem] theorem opd_f (s : List (Nat × AV)) (i : Nat) : (Opd.f i).ev s = .fn i [] := (rfl)
inductive POp where
  | mv (d : Nat) (x : Opd)
  | pk (d : Nat) (c a b : Opd)
  | al (d : Nat) (z : List RV)
  | bx (d : Nat) (x : Opd)
  | bd (d : Nat) (z : List RV) (ps : List (Nat × Nat × Opd))
  | bs (d : Nat) (sz len : Nat) (z : List RV) (ps : List (Nat × Opd))
  | ld (d : Nat) (sz : Option Nat) (a : Opd)
  | st (sz : Nat) (a x : Opd)
  | bi (d : Nat) (op : BinOp) (x y : Opd)
  | bb (d : Nat) (neg : Bool) (x y : Opd)
  | eqs (d : Nat) (neg : Bool) (ks : List RV) (x y : Opd)
  | eqn (d : Nat) (neg : Bool) (x : Opd)
  | un (d : Nat) (op : UnOp) (x : Opd)
  | cv (d : Nat) (k : IntKind) (x : Opd)
  | cs (d : Nat) (x : Opd)
  | fa (d : Nat) (off : Nat) (x : Opd)
  | ia (d : Nat) (sz : Nat) (x i : Opd)
  | iA (d : Nat) (len sz : Nat) (x i : Opd)
  | ix (d : Nat) (x i : Opd)
  | ex (d : Nat) (x : Opd) (i : Nat)
  | ln (d : Nat) (x : Opd)
  | lS (d : Nat) (x : Opd)
  | ap (d : Nat) (sz bytes : Nat) (x y : Opd)
  | mn (d : Nat) (x y : Opd)
  | mx (d : Nat) (x y : Opd)
  | sc (d sz : Nat) (x : Opd) (lo hi : Option Opd)
  | sS (d : Nat) (x : Opd) (lo hi : Option Opd)
  | mk (d : Nat) (sz bytes : Nat) (z : List RV) (n : Opd)
  | mf (d : Nat) (f : Nat) (caps : List Opd)
  | nc (d : Nat) (x : Opd)
  | ca (d : Option Nat) (f : Nat) (args : List Opd)
  | cf (d : Option Nat) (f : Nat) (x : Opd) (args : List Opd)
  | fd (d : Nat) (off : Nat) (sz : Option Nat) (x : Opd)
  | iv (d : Nat) (len : Nat) (x i : Opd)
  | kp (l : List Nat)
  deriving Inhabited
def POp.dst : POp → Option Nat
  | .mv d _ | .pk d .. | .al d .. | .bx d .. | .bd d .. | .bs d .. | .ld d .. | .bi d .. | .bb d .. | .eqs d .. | .eqn d .. | .un d .. | .cv d .. | .cs d .. | .fa d .. | .ia d .. | .iA d .. | .ix d .. | .ex d .. | .ln d .. | .lS d ..
  | .ap d .. | .mn d .. | .mx d .. | .sc d .. | .sS d .. | .mk d .. | .mf d .. | .nc d .. | .fd d .. | .iv d .. => some d
  | .ca d .. | .cf d .. => d
  | .st .. | .kp _ => none
inductive QR where
  | val (v : AV)
  | need (p : Prop) (v : AV)
  | asm (p : Prop) (v : AV)
  | bad
def pick : AV → AV → AV → QR
  | .r (.b true), a, _ => .val a
  | .r (.b false), _, b => .val b
  | _, _, _ => .bad
@[go_sem] theorem pick_true (a b : AV) : pick (.r (.b true)) a b = .val a := (rfl)
@[go_sem] theorem pick_false (a b : AV) : pick (.r (.b false)) a b = .val b := (rfl)
def bitAnd (k : IntKind) (a b : Int) : Int := k.wrap (BitVec.ofInt k.bits a &&& BitVec.ofInt k.bits b).toNat
def bitOr (k : IntKind) (a b : Int) : Int := k.wrap (BitVec.ofInt k.bits a ||| BitVec.ofInt k.bits b).toNat
def bitXor (k : IntKind) (a b : Int) : Int := k.wrap (BitVec.ofInt k.bits a ^^^ BitVec.ofInt k.bits b).toNat
def shiftL (k : IntKind) (a b : Int) : Int := k.wrap (a * 2 ^ (min b.toNat k.bits))
def shiftR (k : IntKind) (a b : Int) : Int := a.fdiv (2 ^ (min b.toNat k.bits))
def binN (op : BinOp) (k : IntKind) (a b : Int) : QR := match op with
  | .add => .val (.r (.n k (k.wrap (a + b))))
  | .sub => .val (.r (.n k (k.wrap (a - b))))
  | .mul => .val (.r (.n k (k.wrap (a * b))))
  | .quo => .need (b ≠ 0) (.r (.n k (k.wrap (a.tdiv b))))
  | .rem => .need (b ≠ 0) (.r (.n k (a.tmod b)))
  | .and => .val (.r (.n k (bitAnd k a b)))
  | .or => .val (.r (.n k (bitOr k a b)))
  | .xor => .val (.r (.n k (bitXor k a b)))
  | .eql => .val (.r (.b (a == b)))
  | .neq => .val (.r (.b (a != b)))
  | .lss => .val (.r (.b (decide (a < b))))
  | .leq => .val (.r (.b (decide (a ≤ b))))
  | .gtr => .val (.r (.b (decide (a > b))))
  | .geq => .val (.r (.b (decide (a ≥ b))))
  | _ => .bad
def binS (op : BinOp) (a b : List UInt8) : QR := match op with
  | .add => .need (a.length + b.length ≤ 9223372036854775807) (.r (.s (a ++ b)))
  | .eql => .val (.r (.b (a == b)))
  | .neq => .val (.r (.b (!(a == b))))
  | _ => .bad
def binB (neg : Bool) : AV → AV → QR
  | .r (.b a), .r (.b b) => .val (.r (.b (neg ^^ (a == b))))
  | _, _ => .bad
@[go_sem] theorem binB_b (neg a b : Bool) : binB neg (.r (.b a)) (.r (.b b)) = .val (.r (.b (neg ^^ (a == b)))) := (rfl)
def bin (op : BinOp) : AV → AV → QR
  | .r (.n k a), .r (.n k' b) => match op with
    | .shl => .need (0 ≤ b) (.r (.n k (shiftL k a b)))
    | .shr => .need (0 ≤ b) (.r (.n k (shiftR k a b)))
    | _ => if k = k' then binN op k a b else .bad
  | .r (.s a), .r (.s b) => binS op a b
  | _, _ => .bad
section
variable (k : IntKind) (a b : Int)
@[go_sem] theorem bin_add : bin .add (.r (.n k a)) (.r (.n k b)) = .val (.r (.n k (k.wrap (a + b)))) := by simp [bin, binN]
@[go_sem] theorem bin_sub : bin .sub (.r (.n k a)) (.r (.n k b)) = .val (.r (.n k (k.wrap (a - b)))) := by simp [bin, binN]
@[go_sem] theorem bin_mul : bin .mul (.r (.n k a)) (.r (.n k b)) = .val (.r (.n k (k.wrap (a * b)))) := by simp [bin, binN]
@[go_sem] theorem bin_quo : bin .quo (.r (.n k a)) (.r (.n k b)) = .need (b ≠ 0) (.r (.n k (k.wrap (a.tdiv b)))) := by simp [bin, binN]
@[go_sem] theorem bin_rem : bin .rem (.r (.n k a)) (.r (.n k b)) = .need (b ≠ 0) (.r (.n k (a.tmod b))) := by simp [bin, binN]
@[go_sem] theorem bin_and : bin .and (.r (.n k a)) (.r (.n k b)) = .val (.r (.n k (bitAnd k a b))) := by simp [bin, binN]
@[go_sem] theorem bin_or : bin .or (.r (.n k a)) (.r (.n k b)) = .val (.r (.n k (bitOr k a b))) := by simp [bin, binN]
@[go_sem] theorem bin_xor : bin .xor (.r (.n k a)) (.r (.n k b)) = .val (.r (.n k (bitXor k a b))) := by simp [bin, binN]
@[go_sem] theorem bin_eql : bin .eql (.r (.n k a)) (.r (.n k b)) = .val (.r (.b (a == b))) := by simp [bin, binN]
@[go_sem] theorem bin_neq : bin .neq (.r (.n k a)) (.r (.n k b)) = .val (.r (.b (a != b))) := by simp [bin, binN]
@[go_sem] theorem bin_lss : bin .lss (.r (.n k a)) (.r (.n k b)) = .val (.r (.b (decide (a < b)))) := by simp [bin, binN]
@[go_sem] theorem bin_leq : bin .leq (.r (.n k a)) (.r (.n k b)) = .val (.r (.b (decide (a ≤ b)))) := by simp [bin, binN]
@[go_sem] theorem bin_gtr : bin .gtr (.r (.n k a)) (.r (.n k b)) = .val (.r (.b (decide (a > b)))) := by simp [bin, binN]
@[go_sem] theorem bin_geq : bin .geq (.r (.n k a)) (.r (.n k b)) = .val (.r (.b (decide (a ≥ b)))) := by simp [bin, binN]
@[go_sem] theorem bin_shl (k' : IntKind) : bin .shl (.r (.n k a)) (.r (.n k' b)) = .need (0 ≤ b) (.r (.n k (shiftL k a b))) := by simp [bin]
@[go_sem] theorem bin_shr (k' : IntKind) : bin .shr (.r (.n k a)) (.r (.n k' b)) = .need (0 ≤ b) (.r (.n k (shiftR k a b))) := by simp [bin]
end
@[go_sem] theorem bin_sadd (a b : List UInt8) : bin .add (.r (.s a)) (.r (.s b)) = .need (a.length + b.length ≤ 9223372036854775807) (.r (.s (a ++ b))) := (rfl)
@[go_sem] theorem bin_seql (a b : List UInt8) : bin .eql (.r (.s a)) (.r (.s b)) = .val (.r (.b (a == b))) := (rfl)
@[go_sem] theorem bin_sneq (a b : List UInt8) : bin .neq (.r (.s a)) (.r (.s b)) = .val (.r (.b (!(a == b)))) := (rfl)
def eqCell : RV → RV → RV → Option Bool
  | .n k _, .n k1 a, .n k2 b => if k = k1 ∧ k = k2 then some (a == b) else none
  | .b _, .b a, .b b => some (a == b)
  | .s _, .s a, .s b => some (a == b)
  | _, _, _ => none
def eqCells : List RV → List RV → List RV → Option Bool
  | [], [], [] => some true
  | z :: zs, x :: xs, y :: ys => match eqCell z x y, eqCells zs xs ys with
    | some a, some b => some (a && b)
    | _, _ => none
  | _, _, _ => none
def eqAgg (ks : List RV) (neg : Bool) : AV → AV → QR
  | .agg xs, .agg ys => match rvs xs, rvs ys with
    | some xs, some ys => match eqCells ks xs ys with
      | some b => .val (.r (.b (neg ^^ b)))
      | none => .bad
    | _, _ => .bad
  | _, _ => .bad
def eqNil (neg : Bool) : AV → QR
  | .r .nil => .val (.r (.b (neg ^^ true)))
  | .r (.ro _ L) => .need (L ≠ []) (.r (.b (neg ^^ false)))
  | .sl _ _ n => .need (n ≠ 0) (.r (.b (neg ^^ false)))
  | _ => .bad
@[go_sem] theorem eqNil_nil (neg : Bool) : eqNil neg (.r .nil) = .val (.r (.b (neg ^^ true))) := (rfl)
@[go_sem] theorem eqNil_ro (neg : Bool) (g : Option Nat) (L : List (List RV)) : eqNil neg (.r (.ro g L)) = .need (L ≠ []) (.r (.b (neg ^^ false))) := (rfl)
@[go_sem] theorem eqNil_sl (neg : Bool) (b st n : Nat) : eqNil neg (.sl b st n) = .need (n ≠ 0) (.r (.b (neg ^^ false))) := (rfl)
def una (op : UnOp) : AV → QR
  | .r (.b x) => match op with | .not => .val (.r (.b (!x))) | _ => .bad
  | .r (.n k x) => match op with | .neg => .val (.r (.n k (k.wrap (0 - x)))) | _ => .bad
  | _ => .bad
@[go_sem] theorem una_not (x : Bool) : una .not (.r (.b x)) = .val (.r (.b (!x))) := (rfl)
@[go_sem] theorem una_neg (k : IntKind) (x : Int) : una .neg (.r (.n k x)) = .val (.r (.n k (k.wrap (0 - x)))) := (rfl)
def conv (k : IntKind) : AV → QR
  | .r (.n _ x) => .val (.r (.n k (k.wrap x)))
  | _ => .bad
@[go_sem] theorem conv_n (k k' : IntKind) (x : Int) : conv k (.r (.n k' x)) = .val (.r (.n k (k.wrap x))) := (rfl)
def byteOf : List RV → UInt8
  | [.n .u8 x] => UInt8.ofNat x.toNat
  | _ => 0
def isByte (r : List RV) : Prop := ∃ x, r = [.n .u8 x]
def strOf (hp : List (Nat × Blk)) : AV → QR
  | .r .nil => .val (.r (.s []))
  | .r (.ro _ L) => .need (∀ r ∈ L, isByte r) (.r (.s (L.map byteOf)))
  | .sl b st n => match hget hp b with
    | some (.row _ L) => .need (st + n ≤ L.length ∧ ∀ r ∈ (L.drop st).take n, isByte r) (.r (.s (((L.drop st).take n).map byteOf)))
    | _ => .bad
  | _ => .bad
def strB (st n : Nat) : Option Blk → QR
  | some (.row _ L) => .need (st + n ≤ L.length ∧ ∀ r ∈ (L.drop st).take n, isByte r) (.r (.s (((L.drop st).take n).map byteOf)))
  | _ => .bad
@[go_sem] theorem strOf_nil (hp : List (Nat × Blk)) : strOf hp (.r .nil) = .val (.r (.s [])) := (rfl)
@[go_sem] theorem strOf_ro (hp : List (Nat × Blk)) (g : Option Nat) (L : List (List RV)) : strOf hp (.r (.ro g L)) = .need (∀ r ∈ L, isByte r) (.r (.s (L.map byteOf))) := (rfl)
@[go_sem] theorem strOf_sl (hp : List (Nat × Blk)) (b st n : Nat) : strOf hp (.sl b st n) = strB st n (hget hp b) := by simp only [strOf, strB]
@[go_sem] theorem strB_row (st n m : Nat) (L : List (List RV)) : strB st n (some (.row m L)) = .need (st + n ≤ L.length ∧ ∀ r ∈ (L.drop st).take n, isByte r) (.r (.s (((L.drop st).take n).map byteOf))) := (rfl)
def faddr (off : Nat) : AV → QR
  | .ptr b i f => .val (.ptr b i (f + off))
  | .rp cs f => .val (.rp cs (f + off))
  | _ => .bad
@[go_sem] theorem faddr_ptr (off b i f : Nat) : faddr off (.ptr b i f) = .val (.ptr b i (f + off)) := (rfl)
@[go_sem] theorem faddr_rp (off : Nat) (cs : List RV) (f : Nat) : faddr off (.rp cs f) = .val (.rp cs (f + off)) := (rfl)
def iaddr (hp : List (Nat × Blk)) (sz : Nat) : AV → AV → QR
  | .sl b st n, .r (.n _ x) => match hget hp b with
    | some (.row sz' _) => if sz' = sz then .need (0 ≤ x ∧ x < n) (.ptr b (st + x.toNat) 0) else .bad
    | some (.var _) => if st = 0 then .need (0 ≤ x ∧ x < n) (.ptr b 0 (x.toNat * sz)) else .bad
    | _ => .bad
  | .r (.ro _ L), .r (.n _ x) => .need ((0 ≤ x ∧ x < L.length) ∧ (L.getD x.toNat []).length = sz) (.rp (L.getD x.toNat []) 0)
  | _, _ => .bad
def iaddrB (sz b st n : Nat) (x : Int) : Option Blk → QR
  | some (.row sz' _) => if sz' = sz then .need (0 ≤ x ∧ x < n) (.ptr b (st + x.toNat) 0) else .bad
  | some (.var _) => if st = 0 then .need (0 ≤ x ∧ x < n) (.ptr b 0 (x.toNat * sz)) else .bad
  | _ => .bad
@[go_sem] theorem iaddr_sl (hp : List (Nat × Blk)) (sz b st n : Nat) (k : IntKind) (x : Int) : iaddr hp sz (.sl b st n) (.r (.n k x)) = iaddrB sz b st n x (hget hp b) := by
  simp only [iaddr, iaddrB]
@[go_sem] theorem iaddrB_row (sz b st n : Nat) (x : Int) (L : List (List RV)) : iaddrB sz b st n x (some (.row sz L)) = .need (0 ≤ x ∧ x < n) (.ptr b (st + x.toNat) 0) := by
  simp [iaddrB]
@[go_sem] theorem iaddrB_var (sz b n : Nat) (x : Int) (cs : List AV) : iaddrB sz b 0 n x (some (.var cs)) = .need (0 ≤ x ∧ x < n) (.ptr b 0 (x.toNat * sz)) := by
  simp [iaddrB]
@[go_sem] theorem iaddr_ro (hp : List (Nat × Blk)) (sz : Nat) (g : Option Nat) (L : List (List RV)) (k : IntKind) (x : Int) :
    iaddr hp sz (.r (.ro g L)) (.r (.n k x)) = .need ((0 ≤ x ∧ x < L.length) ∧ (L.getD x.toNat []).length = sz) (.rp (L.getD x.toNat []) 0) := rfl
def iaddrA (len sz : Nat) : AV → AV → QR
  | .ptr b i f, .r (.n _ x) => .need (0 ≤ x ∧ x < len) (.ptr b i (f + x.toNat * sz))
  | .rp cs f, .r (.n _ x) => .need (0 ≤ x ∧ x < len) (.rp cs (f + x.toNat * sz))
  | _, _ => .bad
@[go_sem] theorem iaddrA_ptr (len sz b i f : Nat) (k : IntKind) (x : Int) : iaddrA len sz (.ptr b i f) (.r (.n k x)) = .need (0 ≤ x ∧ x < len) (.ptr b i (f + x.toNat * sz)) := (rfl)
def sidx : AV → AV → QR
  | .r (.s l), .r (.n _ x) => .need (0 ≤ x ∧ x < l.length) (.r (.n .u8 (l.getD x.toNat 0).toNat))
  | _, _ => .bad
@[go_sem] theorem sidx_s (l : List UInt8) (k : IntKind) (x : Int) : sidx (.r (.s l)) (.r (.n k x)) = .need (0 ≤ x ∧ x < l.length) (.r (.n .u8 (l.getD x.toNat 0).toNat)) := (rfl)
def tget : List AV → Nat → QR
  | [], _ => .bad
  | x :: _, 0 => .val x
  | _ :: l, i + 1 => tget l i
@[go_sem] theorem tget_zero (x : AV) (l : List AV) : tget (x :: l) 0 = .val x := (rfl)
@[go_sem] theorem tget_succ (x : AV) (l : List AV) (i : Nat) : tget (x :: l) (i + 1) = tget l i := (rfl)
def extr (i : Nat) : AV → QR
  | .tup vs => tget vs i
  | _ => .bad
@[go_sem] theorem extr_tup (i : Nat) (vs : List AV) : extr i (.tup vs) = tget vs i := (rfl)
def lenA : AV → QR
  | .sl _ _ n => .asm (n ≤ 9223372036854775807) (.r (.n .i64 n))
  | .r (.ro _ L) => .asm (L.length ≤ 9223372036854775807) (.r (.n .i64 L.length))
  | .r .nil => .val (.r (.n .i64 0))
  | _ => .bad
def lenS : AV → QR
  | .r (.s l) => .val (.r (.n .i64 l.length))
  | _ => .bad
@[go_sem] theorem lenA_sl (b st n : Nat) : lenA (.sl b st n) = .asm (n ≤ 9223372036854775807) (.r (.n .i64 n)) := (rfl)
@[go_sem] theorem lenA_ro (g : Option Nat) (L : List (List RV)) : lenA (.r (.ro g L)) = .asm (L.length ≤ 9223372036854775807) (.r (.n .i64 L.length)) := (rfl)
@[go_sem] theorem lenA_nil : lenA (.r .nil) = .val (.r (.n .i64 0)) := (rfl)
@[go_sem] theorem lenS_s (l : List UInt8) : lenS (.r (.s l)) = .val (.r (.n .i64 l.length)) := (rfl)
def minA : AV → AV → QR
  | .r (.n k x), .r (.n k' y) => if k = k' then .val (.r (.n k (if y < x then y else x))) else .bad
  | _, _ => .bad
def maxA : AV → AV → QR
  | .r (.n k x), .r (.n k' y) => if k = k' then .val (.r (.n k (if y > x then y else x))) else .bad
  | _, _ => .bad
@[go_sem] theorem minA_n (k : IntKind) (x y : Int) : minA (.r (.n k x)) (.r (.n k y)) = .val (.r (.n k (if y < x then y else x))) := by simp [minA]
@[go_sem] theorem maxA_n (k : IntKind) (x y : Int) : maxA (.r (.n k x)) (.r (.n k y)) = .val (.r (.n k (if y > x then y else x))) := by simp [maxA]
def bnd (s : List (Nat × AV)) (o : Option Opd) (d : Int) : Option Int := match o with
  | none => some d
  | some x => match x.ev s with
    | .r (.n _ v) => some v
    | _ => none
@[go_sem] theorem bnd_none (s : List (Nat × AV)) (d : Int) : bnd s none d = some d := (rfl)
def bndV (v : AV) : Option Int := match v with | .r (.n _ v) => some v | _ => none
@[go_sem] theorem bndV_n (k : IntKind) (v : Int) : bndV (.r (.n k v)) = some v := (rfl)
@[go_sem] theorem bnd_some (s : List (Nat × AV)) (x : Opd) (d : Int) : bnd s (some x) d = bndV (x.ev s) := by
  simp only [bnd, bndV]
def slicS (x : AV) (lo hi : Int) : QR := match x with
  | .r (.s l) => .need (0 ≤ lo ∧ lo ≤ hi ∧ hi ≤ l.length) (.r (.s ((l.take hi.toNat).drop lo.toNat)))
  | _ => .bad
def rowsN (sz : Nat) (L : List (List RV)) : Prop := ∀ r ∈ L, r.length = sz
def slic (hp : List (Nat × Blk)) (sz : Nat) (x : AV) (lo hi : Int) : QR := match x with
  | .r (.ro _ L) => .need ((0 ≤ lo ∧ lo ≤ hi ∧ hi ≤ L.length) ∧ rowsN sz L) (.r (.ro none ((L.take hi.toNat).drop lo.toNat)))
  | .sl b st n => match hget hp b with
    | some (.row m _) => if m = sz then .need (0 ≤ lo ∧ lo ≤ hi ∧ hi ≤ n) (.sl b (st + lo.toNat) (hi.toNat - lo.toNat)) else .bad
    | _ => .bad
  | .r .nil => .need (lo = 0 ∧ hi = 0) (.r .nil)
  | _ => .bad
@[go_sem] theorem slicS_s (l : List UInt8) (lo hi : Int) : slicS (.r (.s l)) lo hi = .need (0 ≤ lo ∧ lo ≤ hi ∧ hi ≤ l.length) (.r (.s ((l.take hi.toNat).drop lo.toNat))) := (rfl)
@[go_sem] theorem slic_ro (hp : List (Nat × Blk)) (sz : Nat) (g : Option Nat) (L : List (List RV)) (lo hi : Int) : slic hp sz (.r (.ro g L)) lo hi = .need ((0 ≤ lo ∧ lo ≤ hi ∧ hi ≤ L.length) ∧ rowsN sz L) (.r (.ro none ((L.take hi.toNat).drop lo.toNat))) := (rfl)
def slicB (sz b st n : Nat) (lo hi : Int) : Option Blk → QR
  | some (.row m _) => if m = sz then .need (0 ≤ lo ∧ lo ≤ hi ∧ hi ≤ n) (.sl b (st + lo.toNat) (hi.toNat - lo.toNat)) else .bad
  | _ => .bad
@[go_sem] theorem slic_sl (hp : List (Nat × Blk)) (sz b st n : Nat) (lo hi : Int) : slic hp sz (.sl b st n) lo hi = slicB sz b st n lo hi (hget hp b) := by
  simp only [slic, slicB]
@[go_sem] theorem slicB_row (sz b st n : Nat) (lo hi : Int) (L : List (List RV)) : slicB sz b st n lo hi (some (.row sz L)) = .need (0 ≤ lo ∧ lo ≤ hi ∧ hi ≤ n) (.sl b (st + lo.toNat) (hi.toNat - lo.toNat)) := by
  simp [slicB]
@[go_sem] theorem slic_nil (hp : List (Nat × Blk)) (sz : Nat) (lo hi : Int) : slic hp sz (.r .nil) lo hi = .need (lo = 0 ∧ hi = 0) (.r .nil) := (rfl)
def lenI : AV → Int
  | .r (.s l) => l.length
  | .r (.ro _ L) => L.length
  | .sl _ _ n => n
  | _ => 0
@[go_sem] theorem lenI_s (l : List UInt8) : lenI (.r (.s l)) = l.length := (rfl)
@[go_sem] theorem lenI_ro (g : Option Nat) (L : List (List RV)) : lenI (.r (.ro g L)) = L.length := (rfl)
@[go_sem] theorem lenI_sl (b st n : Nat) : lenI (.sl b st n) = n := (rfl)
@[go_sem] theorem lenI_nil : lenI (.r .nil) = 0 := (rfl)
def slicO (hp : List (Nat × Blk)) (sz : Nat) (x : AV) : Option Int → Option Int → QR
  | some lo, some hi => slic hp sz x lo hi
  | _, _ => .bad
def slicSO (x : AV) : Option Int → Option Int → QR
  | some lo, some hi => slicS x lo hi
  | _, _ => .bad
@[go_sem] theorem slicO_some (hp : List (Nat × Blk)) (sz : Nat) (x : AV) (lo hi : Int) : slicO hp sz x (some lo) (some hi) = slic hp sz x lo hi := (rfl)
@[go_sem] theorem slicSO_some (x : AV) (lo hi : Int) : slicSO x (some lo) (some hi) = slicS x lo hi := (rfl)
def ldB (sz : Option Nat) (i f : Nat) : Option Blk → QR
  | some (.var cs) => match sz with
    | none => .need (i = 0 ∧ f < cs.length) (aget cs f)
    | some n => .need (i = 0 ∧ f + n ≤ cs.length) (.agg (asub cs f n))
  | some (.row m L) => match sz with
    | none => .need (i < L.length ∧ f < m) (.r (cget (L.getD i []) f))
    | some n => .need (i < L.length ∧ f + n ≤ m) (.agg ((csub (L.getD i []) f n).map .r))
  | none => .bad
@[go_sem] theorem ldB_var1 (i f : Nat) (cs : List AV) : ldB none i f (some (.var cs)) = .need (i = 0 ∧ f < cs.length) (aget cs f) := (rfl)
@[go_sem] theorem ldB_varn (n i f : Nat) (cs : List AV) : ldB (some n) i f (some (.var cs)) = .need (i = 0 ∧ f + n ≤ cs.length) (.agg (asub cs f n)) := (rfl)
@[go_sem] theorem ldB_row1 (i f m : Nat) (L : List (List RV)) : ldB none i f (some (.row m L)) = .need (i < L.length ∧ f < m) (.r (cget (L.getD i []) f)) := (rfl)
@[go_sem] theorem ldB_rown (n i f m : Nat) (L : List (List RV)) : ldB (some n) i f (some (.row m L)) = .need (i < L.length ∧ f + n ≤ m) (.agg ((csub (L.getD i []) f n).map .r)) := (rfl)
def ldA (hp : List (Nat × Blk)) (sz : Option Nat) : AV → QR
  | .ptr b i f => ldB sz i f (hget hp b)
  | .rp cs f => match sz with
    | none => .need (f < cs.length) (.r (cget cs f))
    | some n => .need (f + n ≤ cs.length) (.agg ((csub cs f n).map .r))
  | _ => .bad
@[go_sem] theorem ldA_ptr (hp : List (Nat × Blk)) (sz : Option Nat) (b i f : Nat) : ldA hp sz (.ptr b i f) = ldB sz i f (hget hp b) := (rfl)
@[go_sem] theorem ldA_rp1 (hp : List (Nat × Blk)) (cs : List RV) (f : Nat) : ldA hp none (.rp cs f) = .need (f < cs.length) (.r (cget cs f)) := (rfl)
@[go_sem] theorem ldA_rpn (hp : List (Nat × Blk)) (n : Nat) (cs : List RV) (f : Nat) : ldA hp (some n) (.rp cs f) = .need (f + n ≤ cs.length) (.agg ((csub cs f n).map .r)) := (rfl)
def partA (off : Nat) (sz : Option Nat) : AV → QR
  | .agg cs => match sz with
    | none => .need (off < cs.length) (aget cs off)
    | some n => .need (off + n ≤ cs.length) (.agg (asub cs off n))
  | _ => .bad
@[go_sem] theorem partA_1 (off : Nat) (cs : List AV) : partA off none (.agg cs) = .need (off < cs.length) (aget cs off) := (rfl)
@[go_sem] theorem partA_n (off n : Nat) (cs : List AV) : partA off (some n) (.agg cs) = .need (off + n ≤ cs.length) (.agg (asub cs off n)) := (rfl)
def elemA (len : Nat) : AV → AV → QR
  | .agg cs, .r (.n _ x) => .need ((0 ≤ x ∧ x < len) ∧ cs.length = len) (aget cs x.toNat)
  | _, _ => .bad
@[go_sem] theorem elemA_agg (len : Nat) (cs : List AV) (k : IntKind) (x : Int) : elemA len (.agg cs) (.r (.n k x)) = .need ((0 ≤ x ∧ x < len) ∧ cs.length = len) (aget cs x.toNat) := (rfl)
def fillA : List AV → List (Nat × Nat × AV) → Option (List AV)
  | cs, [] => some cs
  | cs, (off, sz, v) :: ps => match v.cells with
    | some vs => if vs.length = sz ∧ off + sz ≤ cs.length then fillA (lay cs off vs) ps else none
    | none => none
def bldA (z : List RV) (ps : List (Nat × Nat × AV)) : QR := match fillA (z.map .r) ps with
  | some cs => .val (.agg cs)
  | none => .bad
def nilC : AV → QR
  | .ptr b i f => .val (.ptr b i f)
  | .rp cs f => .val (.rp cs f)
  | .fn f c => .val (.fn f c)
  | _ => .bad
@[go_sem] theorem nilC_ptr (b i f : Nat) : nilC (.ptr b i f) = .val (.ptr b i f) := (rfl)
@[go_sem] theorem nilC_rp (cs : List RV) (f : Nat) : nilC (.rp cs f) = .val (.rp cs f) := (rfl)
@[go_sem] theorem nilC_fn (f : Nat) (c : List AV) : nilC (.fn f c) = .val (.fn f c) := (rfl)
def qv (o : POp) (sl : List (Nat × AV)) (hp : List (Nat × Blk)) : QR := match o with
  | .mv _ x => .val (x.ev sl)
  | .pk _ c a b => pick (c.ev sl) (a.ev sl) (b.ev sl)
  | .bd _ z ps => bldA z (ps.map fun p => (p.1, p.2.1, p.2.2.ev sl))
  | .ld _ sz a => ldA hp sz (a.ev sl)
  | .bi _ op x y => bin op (x.ev sl) (y.ev sl)
  | .bb _ neg x y => binB neg (x.ev sl) (y.ev sl)
  | .eqs _ neg ks x y => eqAgg ks neg (x.ev sl) (y.ev sl)
  | .eqn _ neg x => eqNil neg (x.ev sl)
  | .un _ op x => una op (x.ev sl)
  | .cv _ k x => conv k (x.ev sl)
  | .cs _ x => strOf hp (x.ev sl)
  | .fa _ off x => faddr off (x.ev sl)
  | .ia _ sz x i => iaddr hp sz (x.ev sl) (i.ev sl)
  | .iA _ len sz x i => iaddrA len sz (x.ev sl) (i.ev sl)
  | .ix _ x i => sidx (x.ev sl) (i.ev sl)
  | .ex _ x i => extr i (x.ev sl)
  | .ln _ x => lenA (x.ev sl)
  | .lS _ x => lenS (x.ev sl)
  | .mn _ x y => minA (x.ev sl) (y.ev sl)
  | .mx _ x y => maxA (x.ev sl) (y.ev sl)
  | .sS _ x lo hi => slicSO (x.ev sl) (bnd sl lo 0) (bnd sl hi (lenI (x.ev sl)))
  | .sc _ sz x lo hi => slicO hp sz (x.ev sl) (bnd sl lo 0) (bnd sl hi (lenI (x.ev sl)))
  | .mf _ f caps => .val (.fn f (caps.map fun x => x.ev sl))
  | .nc _ x => nilC (x.ev sl)
  | .fd _ off sz x => partA off sz (x.ev sl)
  | .iv _ len x i => elemA len (x.ev sl) (i.ev sl)
  | _ => .bad
def kill (b : Nat) : AV → AV
  | .ptr b' i f => if b' = b then .junk else .ptr b' i f
  | .sl b' st n => if b' = b then .junk else .sl b' st n
  | .agg cs => .agg (killL b cs)
  | .tup vs => .tup (killL b vs)
  | .fn f caps => .fn f (killL b caps)
  | v => v
where killL (b : Nat) : List AV → List AV
  | [] => []
  | v :: l => kill b v :: killL b l
end Go.Cap
namespace Go.Cap
open Go
abbrev Mem := Nat → Option (Array Value × TypeId × (Nat × Nat))
def MSub (M : Mem) (w : World) : Prop := ∀ g c e f, M g = some (c, e, f) → w.heap[g]? = some (.cells c e f)
def Mem.le (M M' : Mem) : Prop := ∀ g x, M g = some x → M' g = some x
inductive Rr (M : Mem) : RV → Value → Prop
  | n (k : IntKind) (x : Int) : Rr M (.n k x) (.int k x)
  | b (x : Bool) : Rr M (.b x) (.bool x)
  | s (l : List UInt8) : Rr M (.s l) (.string ⟨l.toArray⟩)
  | nil : Rr M .nil (.slice none 0 0)
  | emp (a : Option Addr) (c : Nat) (hc : c ≤ maxLen) (hn : a = none → c = 0) : Rr M (.ro none []) (.slice a 0 c)
  | ro (sz : Nat) (L : List (List RV)) (blk off c : Nat) (arr : Array Value) (e : TypeId) (f : Nat × Nat) (vals : Nat → Nat → Value)
      (hM : M blk = some (arr, e, f)) (hl : L.length ≤ c) (hc : c ≤ maxLen) (hr : ∀ r ∈ L, r.length = sz)
      (ha : ∀ i j, i < L.length → j < sz → arr[off + (i * sz + j)]? = some (vals i j))
      (hv : ∀ (i j : Nat) x, (L[i]?).bind (·[j]?) = some x → Rr M x (vals i j)) : Rr M (.ro none L) (.slice (some ⟨blk, off, none⟩) L.length c)
  | own (sz : Nat) (L : List (List RV)) (g c : Nat) (arr : Array Value) (e : TypeId) (vals : Nat → Nat → Value)
      (hM : M g = some (arr, e, (0, 0))) (hl : L.length ≤ c) (hc : c ≤ maxLen) (hr : ∀ r ∈ L, r.length = sz) (hsz : arr.size = c * sz) (h1 : ∀ v ∈ arr.toList, v.oneCell' = true)
      (ha : ∀ i j, i < L.length → j < sz → arr[i * sz + j]? = some (vals i j))
      (hv : ∀ (i j : Nat) x, (L[i]?).bind (·[j]?) = some x → Rr M x (vals i j)) : Rr M (.ro (some g) L) (.slice (some ⟨g, 0, none⟩) L.length c)
  | j (v : Value) (h1 : v.oneCell' = true) : Rr M .j v
theorem Rr.mono {M M' : Mem} (hm : M.le M') {x : RV} {v : Value} (h : Rr M x v) : Rr M' x v := by
  induction h with
  | n k x => exact .n k x
  | b x => exact .b x
  | s l => exact .s l
  | nil => exact .nil
  | emp a c hc hn => exact .emp a c hc hn
  | ro sz L blk off c arr e f vals hM hl hc hr ha hv ih => exact .ro sz L blk off c arr e f vals (hm _ _ hM) hl hc hr ha ih
  | own sz L g c arr e vals hM hl hc hr hsz h1 ha hv ih => exact .own sz L g c arr e vals (hm _ _ hM) hl hc hr hsz h1 ha ih
  | j v h => exact .j v h
theorem Rr.one {M : Mem} {x : RV} {v : Value} (h : Rr M x v) : v.oneCell' = true := by
  cases h with
  | j v h => exact h
  | _ => rfl
theorem Rr.weak {M : Mem} {g : Option Nat} {L : List (List RV)} {v : Value} (h : Rr M (.ro g L) v) : Rr M (.ro none L) v := by
  cases h with
  | emp a c hc hn => exact .emp a c hc hn
  | ro sz _ blk off c arr e f vals hM hl hc hr ha hv => exact .ro sz L blk off c arr e f vals hM hl hc hr ha hv
  | own sz _ g c arr e vals hM hl hc hr hsz h1 ha hv => exact .ro sz L g 0 c arr e (0, 0) vals hM hl hc hr (by simpa using ha) hv
theorem Rr.nil_ro {M : Mem} {v : Value} (h : Rr M .nil v) : Rr M (.ro none []) v := by
  cases h; exact .emp none 0 (by simp [maxLen]) (fun _ => rfl)
structure BI where
  g : Option Nat
  cap : Nat
  sz : Nat
inductive Ar (M : Mem) (ι : Nat → Option BI) : AV → Value → Prop
  | r (x v) (h : Rr M x v) : Ar M ι (.r x) v
  | ptr (b i f g cap sz : Nat) (h : ι b = some ⟨some g, cap, sz⟩) : Ar M ι (.ptr b i f) (.pointer (some ⟨g, i * sz + f, none⟩))
  | slv (b cap sz : Nat) (h : ι b = some ⟨none, cap, sz⟩) : Ar M ι (.sl b 0 0) (.slice none 0 0)
  | sl (b st n c g cap sz : Nat) (h : ι b = some ⟨some g, cap, sz⟩) (hn : n ≤ c) (hc : st + c = cap) (hm : cap ≤ maxLen) : Ar M ι (.sl b st n) (.slice (some ⟨g, st * sz, none⟩) n c)
  | sle (b st : Nat) (a : Option Addr) (bi : BI) (h : ι b = some bi) : Ar M ι (.sl b st 0) (.slice a 0 0)
  | rp (cs : List RV) (f blk o : Nat) (arr : Array Value) (e : TypeId) (fr : Nat × Nat) (hM : M blk = some (arr, e, fr))
      (hv : ∀ (j : Nat) x, cs[j]? = some x → ∃ v, arr[o + j]? = some v ∧ Rr M x v) : Ar M ι (.rp cs f) (.pointer (some ⟨blk, o + f, none⟩))
  | agg (cs : List AV) (vs : List Value) (hl : vs.length = cs.length) (h1 : ∀ v ∈ vs, v.oneCell' = true) (h : ∀ (j : Nat) c v, cs[j]? = some c → vs[j]? = some v → Ar M ι c v) : Ar M ι (.agg cs) (.agg vs.toArray)
  | tup (cs : List AV) (vs : List Value) (hl : vs.length = cs.length) (h : ∀ (j : Nat) c v, cs[j]? = some c → vs[j]? = some v → Ar M ι c v) : Ar M ι (.tup cs) (.tuple vs.toArray)
  | fn (f : Nat) (cs : List AV) (vs : List Value) (hl : vs.length = cs.length) (h : ∀ (j : Nat) c v, cs[j]? = some c → vs[j]? = some v → Ar M ι c v) : Ar M ι (.fn f cs) (.func (.func f) #[] vs.toArray)
  | junk (v) : Ar M ι .junk v
theorem Ar.mono {M M' : Mem} {ι ι' : Nat → Option BI} (hm : M.le M') (hi : ∀ b x, ι b = some x → ι' b = some x) {x : AV} {v : Value} (h : Ar M ι x v) : Ar M' ι' x v := by
  induction h with
  | r x v h => exact .r x v (h.mono hm)
  | ptr b i f g cap sz h => exact .ptr b i f g cap sz (hi _ _ h)
  | slv b cap sz h => exact .slv b cap sz (hi _ _ h)
  | sl b st n c g cap sz h hn hc hm' => exact .sl b st n c g cap sz (hi _ _ h) hn hc hm'
  | sle b st a bi h => exact .sle b st a bi (hi _ _ h)
  | rp cs f blk o arr e fr hM hv => exact .rp cs f blk o arr e fr (hm _ _ hM) fun j x hx => let ⟨v, h1, h2⟩ := hv j x hx; ⟨v, h1, h2.mono hm⟩
  | agg cs vs hl h1 h ih => exact .agg cs vs hl h1 ih
  | tup cs vs hl h ih => exact .tup cs vs hl ih
  | fn f cs vs hl h ih => exact .fn f cs vs hl ih
  | junk v => exact .junk v
def Br (M : Mem) (ι : Nat → Option BI) (w : World) (bi : BI) (blk : Blk) : Prop :=
  match bi.g with
  | none => ∃ sz, blk = .row sz []
  | some g => M g = none ∧ ∃ arr e, w.heap[g]? = some (.cells arr e (0, 0)) ∧ arr.size = bi.cap * bi.sz ∧ (∀ v ∈ arr.toList, v.oneCell' = true) ∧
    match blk with
    | .var cs => True ∧ cs.length = bi.cap * bi.sz ∧ ∀ (j : Nat) c v, cs[j]? = some c → arr[j]? = some v → Ar M ι c v
    | .row sz L => sz = bi.sz ∧ L.length ≤ bi.cap ∧ (∀ r ∈ L, r.length = sz) ∧ ∀ (i j : Nat) x v, (L[i]?).bind (·[j]?) = some x → arr[i * sz + j]? = some v → Rr M x v
def Hr (M : Mem) (ι : Nat → Option BI) (hp : List (Nat × Blk)) (w : World) : Prop := ∀ b blk, hget hp b = some blk → ∃ bi, ι b = some bi ∧ Br M ι w bi blk
def Slots (M : Mem) (ι : Nat → Option BI) (sl : List (Nat × AV)) (tmps : Array Value) : Prop := ∀ i, Ar M ι (get sl i) (tmps.getD i undef)
def Ext (w w' : World) : Prop := ∀ g, g < w.heap.size → w'.heap[g]? = w.heap[g]?
theorem Ext.refl (w : World) : Ext w w := fun _ _ => rfl
theorem Ext.size {w w' : World} (h : Ext w w') : w.heap.size ≤ w'.heap.size := by
  rcases Nat.eq_zero_or_pos w.heap.size with h0 | h0
  · omega
  · have h1 := h (w.heap.size - 1) (by omega)
    have h2 : w.heap[w.heap.size - 1]? = some w.heap[w.heap.size - 1] := Array.getElem?_eq_getElem (by omega)
    rw [h2] at h1
    have := (Array.getElem?_eq_some_iff.1 h1).1
    omega
theorem Ext.trans {a b c : World} (h : Ext a b) (k : Ext b c) : Ext a c := fun g hg => (k g (Nat.lt_of_lt_of_le hg h.size)).trans (h g hg)
theorem Ext.at {w w' : World} (h : Ext w w') {g : Nat} {o : Obj} (hg : w.heap[g]? = some o) : w'.heap[g]? = some o := by
  rw [h g (Array.getElem?_eq_some_iff.1 hg).1]; exact hg
theorem Ext.drew (w : World) : Ext w w.drew := fun _ _ => rfl
def vEq : RV → Value → Bool
  | .n k x, .int k' y => decide (k = k') && decide (x = y)
  | .b x, .bool y => x == y
  | .s l, .string s => l == s.data.toList
  | .nil, .slice none 0 0 => true
  | .j, .nilFunc => true
  | _, _ => false
theorem vEq_spec {M : Mem} : ∀ {x : RV} {v : Value}, vEq x v = true → Rr M x v := by
  intro x v h
  unfold vEq at h
  split at h
  · simp at h; obtain ⟨rfl, rfl⟩ := h; exact .n _ _
  · simp at h; subst h; exact .b _
  · rename_i l s
    have : l = s.data.toList := by simpa using h
    subst this
    exact .s _
  · exact .nil
  · exact .j _ rfl
  · cases h
def vEqs : List RV → List Value → Bool
  | [], [] => true
  | x :: xs, v :: vs => vEq x v && vEqs xs vs
  | _, _ => false
theorem vEqs_spec {M : Mem} : ∀ {xs : List RV} {vs : List Value}, vEqs xs vs = true → vs.length = xs.length ∧ ∀ (j : Nat) x v, xs[j]? = some x → vs[j]? = some v → Rr M x v
  | [], [], _ => ⟨rfl, fun j x v h => by simp at h⟩
  | [], _ :: _, h => by simp [vEqs] at h
  | _ :: _, [], h => by simp [vEqs] at h
  | x :: xs, v :: vs, h => by
    simp only [vEqs, Bool.and_eq_true] at h
    obtain ⟨hl, hr⟩ := vEqs_spec (M := M) h.2
    refine ⟨by simp [hl], fun j y u hy hu => ?_⟩
    cases j with
    | zero => simp at hy hu; subst hy; subst hu; exact vEq_spec h.1
    | succ j => simp at hy hu; exact hr j y u hy hu
def opdC : Opd → Operand → Bool
  | .t i, .tmp j => i == j
  | .c x, .const v => vEq x v
  | .f i, .func j => i == j
  | .j, _ => true
  | _, _ => false
theorem opdC_spec {M : Mem} {ι : Nat → Option BI} {sl : List (Nat × AV)} {a : Act} (hs : Slots M ι sl a.tmps) {x : Opd} {o : Operand} (h : opdC x o = true) : Ar M ι (x.ev sl) (a.eval o) := by
  unfold opdC at h
  split at h
  · rename_i i j
    have : i = j := by simpa using h
    subst this
    exact hs i
  · exact .r _ _ (vEq_spec h)
  · rename_i i j
    have : i = j := by simpa using h
    subst this
    exact .fn i [] [] rfl (fun j c v h => by simp at h)
  · exact .junk _
  · cases h
def opdsC : List Opd → List Operand → Bool
  | [], [] => true
  | x :: xs, o :: os => opdC x o && opdsC xs os
  | _, _ => false
theorem opdsC_spec {M : Mem} {ι : Nat → Option BI} {sl : List (Nat × AV)} {a : Act} (hs : Slots M ι sl a.tmps) : ∀ {xs : List Opd} {os : List Operand}, opdsC xs os = true →
    os.length = xs.length ∧ ∀ (j : Nat) c v, (xs.map fun x => x.ev sl)[j]? = some c → (os.map a.eval)[j]? = some v → Ar M ι c v
  | [], [], _ => ⟨rfl, fun j c v h => by simp at h⟩
  | [], _ :: _, h => by simp [opdsC] at h
  | _ :: _, [], h => by simp [opdsC] at h
  | x :: xs, o :: os, h => by
    simp only [opdsC, Bool.and_eq_true] at h
    obtain ⟨hl, hr⟩ := opdsC_spec hs h.2
    refine ⟨by simp [hl], fun j c v hc hv => ?_⟩
    cases j with
    | zero => simp at hc hv; subst hc; subst hv; exact opdC_spec hs h.1
    | succ j => simp only [List.map_cons, List.getElem?_cons_succ] at hc hv; exact hr j c v hc hv
section
variable (P : Program)
def szOf (t : TypeId) : Option (Option Nat) := match P.underlying t with
  | some (.struct _) | some (.array _ _) => (P.info? t).map fun i => some i.size
  | some _ => some none
  | none => none
def zeroIs (t : TypeId) (z : List RV) : Bool := match (P.info? t) with
  | some i => match i.zero with
    | some v => vEqs z v.cells.toList && i.size == z.length
    | none => false
  | none => false
def sizeIs (t : TypeId) (n : Nat) : Bool := match P.info? t with
  | some i => i.size == n
  | none => false
def bytesIs (t : TypeId) (n : Nat) : Bool := match P.info? t with
  | some i => i.bytes == n
  | none => false
def fieldOff (t : TypeId) (k : Nat) : Option Nat := match P.underlying t with
  | some (.struct fs) => match fs[k]? with
    | some f => match P.info? f.type with
      | some i => if i.size = 0 then none else some f.offset
      | none => none
    | none => none
  | _ => none
def isSlice (t : TypeId) : Option TypeId := match P.underlying t with
  | some (.slice e) => some e
  | _ => none
def isArr (t : TypeId) : Option (Nat × TypeId) := match P.underlying t with
  | some (.array n e) => some (n, e)
  | _ => none
def isStr (t : TypeId) : Bool := match P.underlying t with
  | some .string => true
  | _ => false
def isBool (t : TypeId) : Bool := match P.underlying t with
  | some .bool => true
  | _ => false
def isIntK (t : TypeId) (k : IntKind) : Bool := match P.underlying t with
  | some (.int k') => decide (k = k')
  | _ => false
def isIntT (t : TypeId) : Bool := match P.underlying t with
  | some (.int _) => true
  | _ => false
def optC (x : Option Opd) (o : Option Operand) : Bool := match x, o with
  | none, none => true
  | some x, some o => opdC x o
  | _, _ => false
end
end Go.Cap
namespace Go.Cap
open Go
section
variable (P : Program)
def partsC : List (Nat × Nat × Opd) → List Field → List (Nat × Operand) → Bool
  | [], _, [] => true
  | (off, sz, x) :: ps, fs, (k, o) :: os => (match fs[k]? with
      | some f => decide (f.offset = off) && sizeIs P f.type sz
      | none => false) && opdC x o && partsC ps fs os
  | _, _, _ => false
def arrC (sz : Nat) : List (Nat × Nat × Opd) → List (Nat × Operand) → Bool
  | [], [] => true
  | (off, n, x) :: ps, (k, o) :: os => decide (off = k * sz) && decide (n = sz) && opdC x o && arrC sz ps os
  | _, _ => false
def fieldsOk : List Field → Bool
  | [] => true
  | f :: fs => (P.info? f.type).isSome && fieldsOk fs
def rowC (sz : Nat) : List (Nat × Opd) → List (Nat × Operand) → Bool
  | [], [] => true
  | (i, x) :: ps, (k, o) :: os => decide (i = k) && opdC x o && rowC sz ps os
  | _, _ => false
def plainC : List RV → List Field → Nat → Bool
  | [], [], _ => true
  | z :: zs, f :: fs, n => decide (f.offset = n) && (f.name != "_") && (match z with
      | .n k _ => isIntK P f.type k
      | .b _ => isBool P f.type
      | .s _ => isStr P f.type
      | _ => false) && plainC zs fs (n + 1)
  | _, _, _ => false
def structEqC (t : TypeId) (ks : List RV) : Bool := match P.underlying t with
  | some (.struct fs) => plainC P ks fs.toList 0 && !P.stoodInHeld t && !P.eqGuardType P.depth t
  | _ => false
def callableC (f : FuncId) : Bool := match P.funcs[f]? with
  | some fn => fn.body.isSome && !(fn.name == "runtime.NumGoroutine")
  | none => false
def isNilC : Operand → Bool
  | .const (.slice none 0 0) => true
  | _ => false
def chkOp (p : POp) (o : Op) : Bool := match p, o with
  | .mv _ x, .move y => opdC x y
  | .mv _ x, .assign y => opdC x y
  | .pk _ c a b, .pick c' a' b' => opdC c c' && opdC a a' && opdC b b'
  | .al _ z, .alloc e => zeroIs P e z
  | .bx _ x, .box _ y => opdC x y
  | .bd _ z ps, .build t parts => (match P.underlying t with
      | some (.struct fs) => zeroIs P t z && fieldsOk P fs.toList && partsC P ps fs.toList parts.toList
      | some (.array _ e) => zeroIs P t z && (match P.info? e with
          | some i => arrC i.size ps parts.toList
          | none => false)
      | _ => false)
  | .bs _ sz len z ps, .buildSlice t len' parts => (match isSlice P t with
      | some e => decide (len = len') && decide (len * sz ≤ 16777216) && sizeIs P e sz && zeroIs P e z && rowC sz ps parts.toList && decide (0 < sz)
      | none => false)
  | .ld _ sz a, .load t x => opdC a x && decide (szOf P t = some sz)
  | .st sz a x, .store t a' x' => opdC a a' && opdC x x' && sizeIs P t sz
  | .bi _ op x y, .binOp op' t x' y' _ => decide (op = op') && opdC x x' && opdC y y' && (isIntT P t || isStr P t)
  | .bb _ neg x y, .binOp op t x' y' _ => decide (op = if neg then .neq else .eql) && opdC x x' && opdC y y' && isBool P t
  | .eqs _ neg ks x y, .binOp op t x' y' _ => decide (op = if neg then .neq else .eql) && opdC x x' && opdC y y' && structEqC P t ks
  | .eqn _ neg x, .binOp op t x' y' _ => decide (op = if neg then .neq else .eql) && opdC x x' && isNilC y' && (isSlice P t).isSome
  | .un _ op x, .unOp op' _ x' => decide (op = op') && opdC x x'
  | .cv _ k x, .convert s d x' => opdC x x' && isIntT P s && isIntK P d k
  | .cs _ x, .convert s d x' => opdC x x' && isStr P d && (match isSlice P s with
      | some e => isIntK P e .u8
      | none => false)
  | .fa _ off x, .fieldAddr t x' k => opdC x x' && decide (fieldOff P t k = some off)
  | .ia _ sz x i, .indexAddr t x' i' => opdC x x' && opdC i i' && (match isSlice P t with
      | some e => sizeIs P e sz
      | none => false)
  | .iA _ len sz x i, .indexAddr t x' i' => opdC x x' && opdC i i' && (match isArr P t with
      | some (n, e) => decide (n = len) && sizeIs P e sz
      | none => false)
  | .ix _ x i, .index t x' i' => opdC x x' && opdC i i' && isStr P t
  | .ex _ x i, .extract x' i' => opdC x x' && decide (i = i')
  | .ln _ x, .call c => (match c.callee, c.args.toList, c.argTypes.toList with
      | .builtin .len, [x'], [t] => opdC x x' && (isSlice P t).isSome
      | _, _, _ => false)
  | .lS _ x, .call c => (match c.callee, c.args.toList, c.argTypes.toList with
      | .builtin .len, [x'], [t] => opdC x x' && isStr P t
      | _, _, _ => false)
  | .ap _ sz bytes x y, .call c => (match c.callee, c.args.toList, c.argTypes.toList with
      | .builtin .append, [x', y'], [t, u] => opdC x x' && opdC y y' && decide (t = u) && (match isSlice P t with
          | some e => sizeIs P e sz && bytesIs P e bytes && decide (0 < bytes) && decide (0 < sz) && (match P.info? e with
              | some i => (match i.zero with
                  | some z => decide (z.cells.size = sz) && z.cells.all Value.oneCell'
                  | none => false)
              | none => false)
          | none => false)
      | _, _, _ => false)
  | .mn _ x y, .call c => (match c.callee, c.args.toList with
      | .builtin .min, [x', y'] => opdC x x' && opdC y y'
      | _, _ => false)
  | .mx _ x y, .call c => (match c.callee, c.args.toList with
      | .builtin .max, [x', y'] => opdC x x' && opdC y y'
      | _, _ => false)
  | .sc _ sz x lo hi, .slice t x' lo' hi' none => opdC x x' && optC lo lo' && optC hi hi' && (match isSlice P t with
      | some e => sizeIs P e sz
      | none => false)
  | .sS _ x lo hi, .slice t x' lo' hi' none => opdC x x' && optC lo lo' && optC hi hi' && isStr P t
  | .mk _ sz bytes z n, .makeSlice t l c => opdC n l && opdC n c && (match isSlice P t with
      | some e => zeroIs P e z && sizeIs P e sz && bytesIs P e bytes && decide (0 < bytes) && decide (0 < sz)
      | none => false)
  | .mf _ f caps, .makeFunc fn first captured => (match fn, first.toList with
      | .func f', [] => decide (f = f') && opdsC caps captured.toList
      | _, _ => false)
  | .nc _ x, .nilCheck x' => opdC x x'
  | .ca _ f args, .call c => (match c.callee with
      | .value (.func f') => decide (f = f') && opdsC args c.args.toList && callableC P f
      | _ => false)
  | .cf _ f x args, .call c => (match c.callee with
      | .value y => opdC x y && opdsC args c.args.toList && callableC P f
      | _ => false)
  | .fd _ off sz x, .field t x' k => opdC x x' && (match P.underlying t with
      | some (.struct fs) => (match fs[k]? with
          | some f => decide (f.offset = off) && decide (szOf P f.type = some sz)
          | none => false)
      | _ => false)
  | .iv _ len x i, .index t x' i' => opdC x x' && opdC i i' && (match isArr P t with
      | some (n, e) => decide (n = len) && decide (szOf P e = some none) && sizeIs P e 1
      | none => false)
  | _, _ => false
def chk (p : POp) (o : Oper) : Bool := decide (p.dst = o.dst) && chkOp P p o.op
end
def QS (P : Program) (o : Oper) (a : Act) (w : World) (M : Mem) (ι : Nat → Option BI) : QR → Prop
  | .val v => ∃ u, (∀ w', Ext w w' → (execOp a.eval o).run P w' = .ok (.value u) w') ∧ Ar M ι v u
  | .need p v => p → ∃ u, (∀ w', Ext w w' → (execOp a.eval o).run P w' = .ok (.value u) w') ∧ Ar M ι v u
  | .asm p v => p ∧ ∃ u, (∀ w', Ext w w' → (execOp a.eval o).run P w' = .ok (.value u) w') ∧ Ar M ι v u
  | .bad => True
end Go.Cap
namespace Go.Cap
open Go
section
variable {P : Program} {o : Oper} {a : Act} {w : World} {M : Mem} {ι : Nat → Option BI} {sl : List (Nat × AV)} {hp : List (Nat × Blk)}
theorem Ar.rn {k : IntKind} {x : Int} {v : Value} (h : Ar M ι (.r (.n k x)) v) : v = .int k x := by
  cases h with | r _ _ h => cases h; rfl
theorem Ar.rb {x : Bool} {v : Value} (h : Ar M ι (.r (.b x)) v) : v = .bool x := by
  cases h with | r _ _ h => cases h; rfl
theorem Ar.rs {l : List UInt8} {v : Value} (h : Ar M ι (.r (.s l)) v) : v = .string ⟨l.toArray⟩ := by
  cases h with | r _ _ h => cases h; rfl
theorem Ar.rnil {v : Value} (h : Ar M ι (.r .nil) v) : v = .slice none 0 0 := by
  cases h with | r _ _ h => cases h; rfl
theorem MSub.ext (h : MSub M w) {w' : World} (he : Ext w w') : MSub M w' := fun g c e f hg => he.at (h g c e f hg)
theorem Ar.cells {x : AV} {v : Value} {cs : List AV} (h : Ar M ι x v) (hc : x.cells = some cs) :
    ∃ vs : List Value, v.cells = vs.toArray ∧ vs.length = cs.length ∧ (∀ u ∈ vs, u.oneCell' = true) ∧ ∀ (j : Nat) c u, cs[j]? = some c → vs[j]? = some u → Ar M ι c u := by
  have one : ∀ {x : AV} {v : Value}, Ar M ι x v → v.oneCell' = true → v.cells = #[v] → ∃ vs : List Value, v.cells = vs.toArray ∧ vs.length = [x].length ∧ (∀ u ∈ vs, u.oneCell' = true) ∧ ∀ (j : Nat) c u, [x][j]? = some c → vs[j]? = some u → Ar M ι c u := by
    intro x v h h1 h2
    refine ⟨[v], h2, rfl, by simpa using h1, fun j c u hc hu => ?_⟩
    cases j with
    | zero => simp at hc hu; subst hc; subst hu; exact h
    | succ j => simp at hc
  cases h with
  | r x v h => simp [AV.cells] at hc; subst hc; exact one (.r x v h) h.one (by have := h.one; cases v <;> simp [Value.oneCell', Value.cells] at *)
  | ptr b i f g cap sz h => simp [AV.cells] at hc; subst hc; exact one (.ptr b i f g cap sz h) rfl rfl
  | slv b cap sz h => simp [AV.cells] at hc; subst hc; exact one (.slv b cap sz h) rfl rfl
  | sl b st n c g cap sz h hn hcc hm => simp [AV.cells] at hc; subst hc; exact one (.sl b st n c g cap sz h hn hcc hm) rfl rfl
  | sle b st a bi h => simp [AV.cells] at hc; subst hc; exact one (.sle b st a bi h) rfl rfl
  | rp cs f blk o arr e fr hM hv => simp [AV.cells] at hc; subst hc; exact one (.rp cs f blk o arr e fr hM hv) rfl rfl
  | agg cs vs hl h1 h => simp [AV.cells] at hc; subst hc; exact ⟨vs, rfl, hl, h1, h⟩
  | tup cs vs hl h => simp [AV.cells] at hc
  | fn f cs vs hl h => simp [AV.cells] at hc; subst hc; exact one (.fn f cs vs hl h) rfl rfl
  | junk v => simp [AV.cells] at hc
theorem aget_get : ∀ {l : List AV} {i : Nat}, i < l.length → l[i]? = some (aget l i)
  | x :: _, 0, _ => rfl
  | _ :: l, i + 1, h => by simpa [aget] using aget_get (l := l) (by simpa using h)
theorem cget_get : ∀ {l : List RV} {i : Nat}, i < l.length → l[i]? = some (cget l i)
  | x :: _, 0, _ => rfl
  | _ :: l, i + 1, h => by simpa [cget] using cget_get (l := l) (by simpa using h)
theorem q_mv {x : Opd} {y : Operand} (hs : Slots M ι sl a.tmps) (ho : o.op = .move y ∨ o.op = .assign y) (hx : opdC x y = true) : QS P o a w M ι (.val (x.ev sl)) := by
  refine ⟨a.eval y, fun w' _ => ?_, opdC_spec hs hx⟩
  rcases ho with ho | ho <;> simp [execOp, ho]
theorem q_pk {c x y : Opd} {c' x' y' : Operand} (hs : Slots M ι sl a.tmps) (ho : o.op = .pick c' x' y') (hc : opdC c c' = true) (hx : opdC x x' = true) (hy : opdC y y' = true) :
    QS P o a w M ι (pick (c.ev sl) (x.ev sl) (y.ev sl)) := by
  have h := opdC_spec (M := M) (ι := ι) hs hc
  unfold pick
  split
  · rename_i he
    rw [he] at h
    exact ⟨a.eval x', fun w' _ => by simp [execOp, ho, asBool, h.rb], opdC_spec hs hx⟩
  · rename_i he
    rw [he] at h
    exact ⟨a.eval y', fun w' _ => by simp [execOp, ho, asBool, h.rb], opdC_spec hs hy⟩
  · trivial
theorem q_un {op : UnOp} {x : Opd} {x' : Operand} {t : TypeId} (hs : Slots M ι sl a.tmps) (ho : o.op = .unOp op t x') (hx : opdC x x' = true) : QS P o a w M ι (una op (x.ev sl)) := by
  have h := opdC_spec (M := M) (ι := ι) hs hx
  unfold una
  split
  · rename_i b he
    rw [he] at h
    split
    · exact ⟨.bool (!b), fun w' _ => by simp [execOp, ho, Op.unary, h.rb], .r _ _ (.b _)⟩
    · trivial
  · rename_i k n he
    rw [he] at h
    split
    · exact ⟨.int k (k.wrap (0 - n)), fun w' _ => by simp [execOp, ho, Op.unary, Op.intArith, h.rn], .r _ _ (.n _ _)⟩
    · trivial
  · trivial
theorem q_bi {op : BinOp} {x y : Opd} {x' y' : Operand} {t u : TypeId} (hs : Slots M ι sl a.tmps) (ho : o.op = .binOp op t x' y' u) (hx : opdC x x' = true) (hy : opdC y y' = true) :
    QS P o a w M ι (bin op (x.ev sl) (y.ev sl)) := by
  have h1 := opdC_spec (M := M) (ι := ι) hs hx
  have h2 := opdC_spec (M := M) (ι := ι) hs hy
  unfold bin
  split
  · rename_i k m k' n e1 e2
    rw [e1] at h1
    rw [e2] at h2
    have e1 := h1.rn
    have e2 := h2.rn
    split
    · exact fun hn => ⟨.int k (shiftL k m n), fun w' _ => by simp only [execOp, ho, e1, e2, eqGuard_shl, binOp_shl, Op.shift, if_neg (show ¬ n < 0 by omega), Sem.run_bind, Sem.run_pure, Result.andThen_ok]; rfl, .r _ _ (.n _ _)⟩
    · exact fun hn => ⟨.int k (shiftR k m n), fun w' _ => by simp only [execOp, ho, e1, e2, eqGuard_shr, binOp_shr, Op.shift, if_neg (show ¬ n < 0 by omega), Sem.run_bind, Sem.run_pure, Result.andThen_ok]; rfl, .r _ _ (.n _ _)⟩
    · split
      · rename_i hk
        subst hk
        cases op <;> simp only [binN, QS] <;> first
          | trivial
          | (refine ⟨_, fun w' _ => ?_, .r _ _ (.n _ _)⟩
             simp only [execOp, ho, e1, e2, eqGuard_at_int, binOp_add, binOp_sub, binOp_mul, Op.intArith, Sem.run_bind, Sem.run_pure, Result.andThen_ok]; done)
          | (refine ⟨_, fun w' _ => ?_, .r _ _ (.n _ _)⟩
             simp only [execOp, ho, e1, e2, eqGuard_at_int, binOp_and, binOp_or, binOp_xor, Op.intBits, Sem.run_bind, Sem.run_pure, Result.andThen_ok]
             rfl)
          | (refine ⟨_, fun w' _ => ?_, .r _ _ (.b _)⟩
             simp only [execOp, ho, e1, e2, eqGuard_at_int, binOp_eql, binOp_neq, binOp_lss, binOp_leq, binOp_gtr, binOp_geq, Sem.run_bind, Sem.run_pure, Result.andThen_ok])
          | (intro hn
             refine ⟨_, fun w' _ => ?_, .r _ _ (.n _ _)⟩
             simp only [execOp, ho, e1, e2, eqGuard_at_int, binOp_quo, binOp_rem, Op.intDiv, if_neg hn, Sem.run_bind, Sem.run_pure, Result.andThen_ok])
      · trivial
  · rename_i m n e1 e2
    rw [e1] at h1
    rw [e2] at h2
    have e1 := h1.rs
    have e2 := h2.rs
    unfold binS
    split
    · intro hn
      refine ⟨.string ⟨(m ++ n).toArray⟩, fun w' _ => ?_, .r _ _ (.s _)⟩
      have hle : ¬ (((m.length + n.length : Nat) : Int) > 9223372036854775807) := by omega
      have happ : (⟨m.toArray⟩ : ByteArray) ++ (⟨n.toArray⟩ : ByteArray) = ⟨(m ++ n).toArray⟩ := by
        apply ByteArray.ext
        simp
      simp only [execOp, ho, e1, e2, eqGuard_at_string, binOp, Op.stringOp, IntKind.max_i64, Sem.run_bind, Sem.run_pure, Result.andThen_ok, happ]
      simp only [ByteArray.size, List.size_toArray]
      rw [if_neg hle]
      simp
    · refine ⟨.bool (m == n), fun w' _ => ?_, .r _ _ (.b _)⟩
      simp [execOp, ho, e1, e2, eqGuard_at_string, binOp, Op.stringOp, ByteArray.toList_eq]
    · refine ⟨.bool (!(m == n)), fun w' _ => ?_, .r _ _ (.b _)⟩
      simp [execOp, ho, e1, e2, eqGuard_at_string, binOp, Op.stringOp, ByteArray.toList_eq]
    · trivial
  · trivial
theorem isBool_spec {t : TypeId} (h : isBool P t = true) : P.underlying t = some .bool := by
  unfold isBool at h
  split at h
  · assumption
  · cases h
theorem isStr_spec {t : TypeId} (h : isStr P t = true) : P.underlying t = some .string := by
  unfold isStr at h
  split at h
  · assumption
  · cases h
theorem isIntK_spec {t : TypeId} {k : IntKind} (h : isIntK P t k = true) : P.underlying t = some (.int k) := by
  unfold isIntK at h
  split at h
  · rename_i k' hk
    have : k = k' := by simpa using h
    subst this; exact hk
  · cases h
theorem isIntT_spec {t : TypeId} (h : isIntT P t = true) : ∃ k, P.underlying t = some (.int k) := by
  unfold isIntT at h
  split at h
  · exact ⟨_, by assumption⟩
  · cases h
theorem isSlice_spec {t e : TypeId} (h : isSlice P t = some e) : P.underlying t = some (.slice e) := by
  unfold isSlice at h
  split at h
  · rename_i e' he
    simp at h; subst h; exact he
  · cases h
theorem isArr_spec {t e : TypeId} {n : Nat} (h : isArr P t = some (n, e)) : P.underlying t = some (.array n e) := by
  unfold isArr at h
  split at h
  · rename_i n' e' he
    simp at h; obtain ⟨rfl, rfl⟩ := h; exact he
  · cases h
theorem sizeIs_spec {t : TypeId} {n : Nat} (h : sizeIs P t n = true) : ∃ i, P.info? t = some i ∧ i.size = n := by
  unfold sizeIs at h
  split at h
  · rename_i i hi
    exact ⟨i, hi, by simpa using h⟩
  · cases h
theorem bytesIs_spec {t : TypeId} {n : Nat} (h : bytesIs P t n = true) : ∃ i, P.info? t = some i ∧ i.bytes = n := by
  unfold bytesIs at h
  split at h
  · rename_i i hi
    exact ⟨i, hi, by simpa using h⟩
  · cases h
theorem zeroIs_spec {t : TypeId} {z : List RV} (h : zeroIs P t z = true) : ∃ i v, P.info? t = some i ∧ i.zero = some v ∧ vEqs z v.cells.toList = true ∧ i.size = z.length := by
  unfold zeroIs at h
  split at h
  · rename_i i hi
    split at h
    · rename_i v hv
      simp only [Bool.and_eq_true, beq_iff_eq] at h
      exact ⟨i, v, hi, hv, h.1, h.2⟩
    · cases h
  · cases h
theorem q_bb {neg : Bool} {x y : Opd} {x' y' : Operand} {t u : TypeId} (hs : Slots M ι sl a.tmps) (ho : o.op = .binOp (if neg then .neq else .eql) t x' y' u) (hx : opdC x x' = true) (hy : opdC y y' = true) (ht : isBool P t = true) :
    QS P o a w M ι (binB neg (x.ev sl) (y.ev sl)) := by
  have h1 := opdC_spec (M := M) (ι := ι) hs hx
  have h2 := opdC_spec (M := M) (ι := ι) hs hy
  have hb := isBool_spec ht
  unfold binB
  split
  · rename_i m n e1 e2
    rw [e1] at h1
    rw [e2] at h2
    have e1 := h1.rb
    have e2 := h2.rb
    refine ⟨.bool (neg ^^ (m == n)), fun w' _ => ?_, .r _ _ (.b _)⟩
    cases neg <;> simp [execOp, ho, e1, e2, eqGuard_at_bool, run_eql_bool (P := P) _ t m n hb, run_neq_bool (P := P) _ t m n hb]
  · trivial
theorem run_eqn {t e : TypeId} (neg : Bool) (ad : Option Addr) (n c : Nat) (h : P.underlying t = some (.slice e)) (w : World) :
    (binOp (if neg then .neq else .eql) t (.slice ad n c) (.slice none 0 0)).run P w = .ok (.bool (neg ^^ ad.isNone)) w := by
  have h1 : ∀ d, (Op.equalIn (d + 1) t (.slice ad n c) (.slice none 0 0)).run P w = .ok ad.isNone w := fun d => by
    cases ad <;> simp [Op.equalIn, run_underlying h]
  have h2 : (Op.equalIn 10000 t (.slice ad n c) (.slice none 0 0)).run P w = .ok ad.isNone w := h1 9999
  cases neg
  · simp only [binOp, Bool.false_eq_true, if_false]
    simp [Op.equal, Op.maxDepth, h2]
  · simp only [binOp, if_true]
    simp [Op.equal, Op.maxDepth, h2]
theorem q_eqn {neg : Bool} {x : Opd} {x' y' : Operand} {t u : TypeId} (hs : Slots M ι sl a.tmps) (ho : o.op = .binOp (if neg then .neq else .eql) t x' y' u) (hx : opdC x x' = true) (hy : isNilC y' = true) (ht : (isSlice P t).isSome = true) :
    QS P o a w M ι (eqNil neg (x.ev sl)) := by
  have h1 := opdC_spec (M := M) (ι := ι) hs hx
  obtain ⟨e, he⟩ := Option.isSome_iff_exists.1 ht
  have hb := isSlice_spec he
  have hy' : a.eval y' = .slice none 0 0 := by
    unfold isNilC at hy
    split at hy
    · rfl
    · cases hy
  have some : ∀ (ad : Addr) (n c : Nat) (w' : World), a.eval x' = .slice (some ad) n c → (execOp a.eval o).run P w' = .ok (.value (.bool (neg ^^ false))) w' := by
    intro ad n c w' e1
    simp only [execOp, ho, e1, hy', eqGuard_at_slice, Sem.run_bind, Sem.run_pure, Result.andThen_ok, run_eqn neg _ _ _ hb]; rfl
  unfold eqNil
  split
  · rename_i e1
    rw [e1] at h1
    have e1 := h1.rnil
    refine ⟨.bool (neg ^^ true), fun w' _ => ?_, .r _ _ (.b _)⟩
    simp only [execOp, ho, e1, hy', eqGuard_at_slice, Sem.run_bind, Sem.run_pure, Result.andThen_ok, run_eqn neg _ _ _ hb]; rfl
  · rename_i g L e1
    rw [e1] at h1
    intro hL
    refine ⟨.bool (neg ^^ false), fun w' _ => ?_, .r _ _ (.b _)⟩
    generalize hv : a.eval x' = v at h1
    cases h1 with
    | r _ _ h =>
      cases h with
      | emp => exact absurd rfl hL
      | ro => exact some _ _ _ _ hv
      | own => exact some _ _ _ _ hv
  · rename_i b st n e1
    rw [e1] at h1
    intro hn
    refine ⟨.bool (neg ^^ false), fun w' _ => ?_, .r _ _ (.b _)⟩
    generalize hv : a.eval x' = v at h1
    cases h1 with
    | slv => exact absurd rfl hn
    | sl => exact some _ _ _ _ hv
    | sle => exact absurd rfl hn
  · trivial
theorem q_cv {k : IntKind} {x : Opd} {x' : Operand} {s d : TypeId} (hs : Slots M ι sl a.tmps) (ho : o.op = .convert s d x') (hx : opdC x x' = true) (h1 : isIntT P s = true) (h2 : isIntK P d k = true) :
    QS P o a w M ι (conv k (x.ev sl)) := by
  have h := opdC_spec (M := M) (ι := ι) hs hx
  obtain ⟨k', hk'⟩ := isIntT_spec h1
  have hk := isIntK_spec h2
  unfold conv
  split
  · rename_i k0 n e1
    rw [e1] at h
    refine ⟨.int k (k.wrap n), fun w' _ => ?_, .r _ _ (.n _ _)⟩
    simp [execOp, ho, h.rn, convert, run_underlying hk', run_underlying hk, Conv.intToInt]
  · trivial
theorem fieldOff_spec {t : TypeId} {k off : Nat} (h : fieldOff P t k = some off) : ∃ fs f i, P.underlying t = some (.struct fs) ∧ fs[k]? = some f ∧ P.info? f.type = some i ∧ i.size ≠ 0 ∧ f.offset = off := by
  unfold fieldOff at h
  split at h
  · rename_i fs hfs
    split at h
    · rename_i f hf
      split at h
      · rename_i i hi
        split at h
        · cases h
        · rename_i h0
          exact ⟨fs, f, i, hfs, hf, hi, h0, by simpa using h⟩
      · cases h
    · cases h
  · cases h
theorem q_fa {off : Nat} {x : Opd} {x' : Operand} {t : TypeId} {k : Nat} (hs : Slots M ι sl a.tmps) (ho : o.op = .fieldAddr t x' k) (hx : opdC x x' = true) (h1 : fieldOff P t k = some off) :
    QS P o a w M ι (faddr off (x.ev sl)) := by
  have h := opdC_spec (M := M) (ι := ι) hs hx
  obtain ⟨fs, f, i, hu, hf, hi, h0, rfl⟩ := fieldOff_spec h1
  have run : ∀ (g o' : Nat) (w' : World), a.eval x' = .pointer (some ⟨g, o', none⟩) → (execOp a.eval o).run P w' = .ok (.value (.pointer (some ⟨g, o' + f.offset, none⟩))) w' := by
    intro g o' w' e1
    simp [execOp, ho, e1, Instr.fieldAt, run_underlying hu, hf, Instr.sureAddr, fieldPlace, sizeOf, typeInfo, hi, h0, Addr.add_lit]
  unfold faddr
  generalize hv : a.eval x' = v at h
  split
  · rename_i b i' f' e1
    rw [e1] at h
    cases h with
    | ptr _ _ _ g cap sz hι =>
      refine ⟨_, fun w' _ => run _ _ w' hv, ?_⟩
      rw [Nat.add_assoc]
      exact .ptr b i' (f' + f.offset) g cap sz hι
  · rename_i cs f' e1
    rw [e1] at h
    cases h with
    | rp _ _ blk o' arr e fr hM hvv =>
      refine ⟨_, fun w' _ => run _ _ w' hv, ?_⟩
      rw [Nat.add_assoc]
      exact .rp cs (f' + f.offset) blk o' arr e fr hM hvv
  · trivial
theorem q_ia {sz : Nat} {x i : Opd} {x' i' : Operand} {t e : TypeId} (hs : Slots M ι sl a.tmps) (hH : Hr M ι hp w) (ho : o.op = .indexAddr t x' i') (hx : opdC x x' = true) (hi : opdC i i' = true) (ht : isSlice P t = some e) (hz : sizeIs P e sz = true) :
    QS P o a w M ι (iaddr hp sz (x.ev sl) (i.ev sl)) := by
  have h1 := opdC_spec (M := M) (ι := ι) hs hx
  have h2 := opdC_spec (M := M) (ι := ι) hs hi
  have hu := isSlice_spec ht
  obtain ⟨ie, hie, hsz⟩ := sizeIs_spec hz
  have run : ∀ (g o' n c : Nat) (k : IntKind) (q : Int) (w' : World), a.eval x' = .slice (some ⟨g, o', none⟩) n c → a.eval i' = .int k q → 0 ≤ q → q < n → (execOp a.eval o).run P w' = .ok (.value (.pointer (some ⟨g, o' + q.toNat * sz, none⟩))) w' := by
    intro g o' n c k q w' e1 e2 q0 q1
    simp [execOp, ho, e1, e2, Instr.indexAt, run_underlying hu, asIntOf, q0, q1, sizeOf, typeInfo, hie, hsz, Addr.add_lit]
  unfold iaddr
  generalize hv : a.eval x' = v at h1
  split
  · rename_i b st n k q e1 e2
    rw [e1] at h1
    rw [e2] at h2
    have e2 := h2.rn
    split
    · rename_i sz' L hb
      split
      · rename_i hszz
        subst hszz
        rintro ⟨q0, q1⟩
        cases h1 with
        | slv => simp at q1; omega
        | sle => simp at q1; omega
        | sl _ _ _ c g cap sz0 hι hn hc hm =>
          obtain ⟨bi, hbi, hBr⟩ := hH b _ hb
          rw [hι] at hbi; cases hbi
          obtain ⟨_, arr, e', _, _, _, hszz, _⟩ := hBr
          simp only at hszz
          refine ⟨_, fun w' _ => run _ _ _ _ _ _ w' hv e2 q0 q1, ?_⟩
          have := Ar.ptr (M := M) (ι := ι) b (st + q.toNat) 0 g cap sz0 hι
          rw [hszz]
          rwa [Nat.add_mul, Nat.add_zero] at this
      · trivial
    · rename_i cs hb
      split
      · rename_i hst
        subst hst
        rintro ⟨q0, q1⟩
        cases h1 with
        | slv => simp at q1; omega
        | sle => simp at q1; omega
        | sl _ _ _ c g cap sz0 hι hn hc hm =>
          refine ⟨_, fun w' _ => run _ _ _ _ _ _ w' hv e2 q0 q1, ?_⟩
          have := Ar.ptr (M := M) (ι := ι) b 0 (q.toNat * sz) g cap sz0 hι
          rwa [Nat.zero_mul] at this ⊢
      · trivial
    · trivial
  · rename_i g L k q e1 e2
    rw [e1] at h1
    rw [e2] at h2
    have e2 := h2.rn
    rintro ⟨⟨q0, q1⟩, hlen⟩
    have hq : q.toNat < L.length := by omega
    have hgd : L.getD q.toNat [] = L[q.toNat] := by simp [List.getD_eq_getElem?_getD, List.getElem?_eq_getElem hq]
    have main : ∀ (szr blk off c : Nat) (arr : Array Value) (e' : TypeId) (f : Nat × Nat) (vals : Nat → Nat → Value), M blk = some (arr, e', f) → (∀ r ∈ L, r.length = szr) →
        (∀ i j, i < L.length → j < szr → arr[off + (i * szr + j)]? = some (vals i j)) → (∀ (i j : Nat) x, (L[i]?).bind (·[j]?) = some x → Rr M x (vals i j)) → v = .slice (some ⟨blk, off, none⟩) L.length c →
        ∃ u, (∀ w', Ext w w' → (execOp a.eval o).run P w' = .ok (.value u) w') ∧ Ar M ι (.rp (L.getD q.toNat []) 0) u := by
      intro szr blk off c arr e' f vals hM hr ha hvv hvs
      rw [hvs] at hv
      refine ⟨_, fun w' _ => run _ _ _ _ _ _ w' hv e2 q0 q1, ?_⟩
      have hszr : szr = sz := by rw [← hlen, hgd]; exact (hr _ (List.getElem_mem hq)).symm
      subst hszr
      refine .rp _ 0 blk (off + q.toNat * szr) arr e' f hM fun j x hjx => ?_
      have hj : j < szr := by
        rw [← hlen]
        exact (List.getElem?_eq_some_iff.1 hjx).1
      refine ⟨vals q.toNat j, by rw [Nat.add_assoc]; exact ha _ _ hq hj, hvv q.toNat j x ?_⟩
      rw [List.getElem?_eq_getElem hq]
      rw [hgd] at hjx
      exact hjx
    cases h1 with
    | r _ _ h =>
      cases h with
      | emp => simp at hq
      | ro szr _ blk off c arr e' f vals hM hl hc hr ha hvv => exact main szr blk off c arr e' f vals hM hr ha hvv rfl
      | own szr _ g c arr e' vals hM hl hc hr hss h1 ha hvv => exact main szr g 0 c arr e' (0, 0) vals hM hr (by simpa using ha) hvv rfl
  · trivial
theorem q_iA {len sz : Nat} {x i : Opd} {x' i' : Operand} {t e : TypeId} (hs : Slots M ι sl a.tmps) (ho : o.op = .indexAddr t x' i') (hx : opdC x x' = true) (hi : opdC i i' = true) (ht : isArr P t = some (len, e)) (hz : sizeIs P e sz = true) :
    QS P o a w M ι (iaddrA len sz (x.ev sl) (i.ev sl)) := by
  have h1 := opdC_spec (M := M) (ι := ι) hs hx
  have h2 := opdC_spec (M := M) (ι := ι) hs hi
  have hu := isArr_spec ht
  obtain ⟨ie, hie, hsz⟩ := sizeIs_spec hz
  have run : ∀ (g o' : Nat) (k : IntKind) (q : Int) (w' : World), a.eval x' = .pointer (some ⟨g, o', none⟩) → a.eval i' = .int k q → 0 ≤ q → q < len → (execOp a.eval o).run P w' = .ok (.value (.pointer (some ⟨g, o' + q.toNat * sz, none⟩))) w' := by
    intro g o' k q w' e1 e2 q0 q1
    simp [execOp, ho, e1, e2, Instr.indexAt, run_underlying hu, asIntOf, Instr.sureAddr, q0, q1, sizeOf, typeInfo, hie, hsz, Addr.add_lit]
  unfold iaddrA
  generalize hv : a.eval x' = v at h1
  split
  · rename_i b i0 f k q e1 e2
    rw [e1] at h1
    rw [e2] at h2
    rintro ⟨q0, q1⟩
    cases h1 with
    | ptr _ _ _ g cap sz0 hι =>
      refine ⟨_, fun w' _ => run _ _ _ _ w' hv h2.rn q0 q1, ?_⟩
      rw [Nat.add_assoc]
      exact .ptr b i0 (f + q.toNat * sz) g cap sz0 hι
  · rename_i cs f k q e1 e2
    rw [e1] at h1
    rw [e2] at h2
    rintro ⟨q0, q1⟩
    cases h1 with
    | rp _ _ blk o' arr e' fr hM hvv =>
      refine ⟨_, fun w' _ => run _ _ _ _ w' hv h2.rn q0 q1, ?_⟩
      rw [Nat.add_assoc]
      exact .rp cs (f + q.toNat * sz) blk o' arr e' fr hM hvv
  · trivial
theorem q_ix {x i : Opd} {x' i' : Operand} {t : TypeId} (hs : Slots M ι sl a.tmps) (ho : o.op = .index t x' i') (hx : opdC x x' = true) (hi : opdC i i' = true) (ht : isStr P t = true) :
    QS P o a w M ι (sidx (x.ev sl) (i.ev sl)) := by
  have h1 := opdC_spec (M := M) (ι := ι) hs hx
  have h2 := opdC_spec (M := M) (ι := ι) hs hi
  have hu := isStr_spec ht
  unfold sidx
  split
  · rename_i l k q e1 e2
    rw [e1] at h1
    rw [e2] at h2
    rintro ⟨q0, q1⟩
    have hq : q.toNat < l.length := by omega
    refine ⟨.int .u8 (l.getD q.toNat 0).toNat, fun w' _ => ?_, .r _ _ (.n _ _)⟩
    have hb : (⟨l.toArray⟩ : ByteArray)[q.toNat]? = some (l.getD q.toNat 0) := by
      rw [List.getD_eq_getElem?_getD, List.getElem?_eq_getElem hq]
      have hlt : q.toNat < (⟨l.toArray⟩ : ByteArray).size := by simpa [ByteArray.size] using hq
      rw [getElem?_pos (⟨l.toArray⟩ : ByteArray) q.toNat hlt]
      rfl
    simp [execOp, ho, h1.rs, h2.rn, Instr.index, run_underlying hu, asIntOf, q0, hb]
  · trivial
theorem tget_spec : ∀ {l : List AV} {i : Nat}, tget l i = .bad ∨ ∃ v, tget l i = .val v ∧ l[i]? = some v
  | [], _ => .inl rfl
  | x :: _, 0 => .inr ⟨x, rfl, rfl⟩
  | _ :: l, i + 1 => by simpa [tget] using tget_spec (l := l) (i := i)
theorem q_ex {x : Opd} {x' : Operand} {i : Nat} (hs : Slots M ι sl a.tmps) (ho : o.op = .extract x' i) (hx : opdC x x' = true) : QS P o a w M ι (extr i (x.ev sl)) := by
  have h := opdC_spec (M := M) (ι := ι) hs hx
  unfold extr
  generalize hv : a.eval x' = v at h
  split
  · rename_i vs e1
    rw [e1] at h
    rcases tget_spec (l := vs) (i := i) with hb | ⟨y, hy, hi⟩
    · rw [hb]; trivial
    · rw [hy]
      cases h with
      | tup _ us hl hh =>
        have hi' : i < us.length := by rw [hl]; exact (List.getElem?_eq_some_iff.1 hi).1
        exact ⟨us[i], fun w' _ => by simp [execOp, ho, hv, Instr.extract, hi'], hh i _ _ hi (List.getElem?_eq_getElem hi')⟩
  · trivial
theorem q_ln {x : Opd} {x' : Operand} {t : TypeId} {c : Go.Call} (hs : Slots M ι sl a.tmps) (ho : o.op = .call c) (hc : c.callee = .builtin .len) (hargs : c.args.toList = [x']) (hat : c.argTypes.toList = [t]) (hx : opdC x x' = true) (ht : (isSlice P t).isSome = true) :
    QS P o a w M ι (lenA (x.ev sl)) := by
  have h := opdC_spec (M := M) (ι := ι) hs hx
  obtain ⟨e, he⟩ := Option.isSome_iff_exists.1 ht
  have hu := isSlice_spec he
  have hargs' : c.args = #[x'] := Array.toList_inj.1 hargs
  have hat' : c.argTypes = #[t] := Array.toList_inj.1 hat
  have run : ∀ (ad : Option Addr) (n cp : Nat) (w' : World), a.eval x' = .slice ad n cp → (execOp a.eval o).run P w' = .ok (.value (.int .i64 n)) w' := by
    intro ad n cp w' e1
    simp [execOp, ho, resolve, hc, hargs', hat', invoke, builtin, e1, Builtin.len_, run_underlying hu, goInt]
  unfold lenA
  generalize hv : a.eval x' = v at h
  have hmax : maxLen = 9223372036854775807 := by simp [maxLen]
  split
  · rename_i b st n e1
    rw [e1] at h
    cases h with
    | slv => exact ⟨by omega, _, fun w' _ => run _ _ _ w' hv, .r _ _ (.n _ _)⟩
    | sle => exact ⟨by omega, _, fun w' _ => run _ _ _ w' hv, .r _ _ (.n _ _)⟩
    | sl _ _ _ c g cap sz0 hι hn hc hm => exact ⟨by omega, _, fun w' _ => run _ _ _ w' hv, .r _ _ (.n _ _)⟩
  · rename_i g L e1
    rw [e1] at h
    cases h with
    | r _ _ h =>
      cases h with
      | emp => exact ⟨by simp, _, fun w' _ => run _ _ _ w' hv, .r _ _ (.n _ _)⟩
      | ro szr _ blk off c arr e' f vals hM hl hc => exact ⟨by omega, _, fun w' _ => run _ _ _ w' hv, .r _ _ (.n _ _)⟩
      | own szr _ g c arr e' vals hM hl hc => exact ⟨by omega, _, fun w' _ => run _ _ _ w' hv, .r _ _ (.n _ _)⟩
  · rename_i e1
    rw [e1] at h
    have := h.rnil
    subst this
    exact ⟨_, fun w' _ => run _ _ _ w' hv, .r _ _ (.n _ _)⟩
  · trivial
theorem q_lS {x : Opd} {x' : Operand} {t : TypeId} {c : Go.Call} (hs : Slots M ι sl a.tmps) (ho : o.op = .call c) (hc : c.callee = .builtin .len) (hargs : c.args.toList = [x']) (hat : c.argTypes.toList = [t]) (hx : opdC x x' = true) (ht : isStr P t = true) :
    QS P o a w M ι (lenS (x.ev sl)) := by
  have h := opdC_spec (M := M) (ι := ι) hs hx
  have hu := isStr_spec ht
  have hargs' : c.args = #[x'] := Array.toList_inj.1 hargs
  have hat' : c.argTypes = #[t] := Array.toList_inj.1 hat
  unfold lenS
  split
  · rename_i l e1
    rw [e1] at h
    refine ⟨.int .i64 l.length, fun w' _ => ?_, .r _ _ (.n _ _)⟩
    have hsz : (⟨l.toArray⟩ : ByteArray).size = l.length := by simp [ByteArray.size]
    simp [execOp, ho, resolve, hc, hargs', hat', invoke, builtin, h.rs, Builtin.len_, run_underlying hu, goInt]
    rw [hsz]
  · trivial
theorem q_mn {x y : Opd} {x' y' : Operand} {c : Go.Call} (hs : Slots M ι sl a.tmps) (ho : o.op = .call c) (hc : c.callee = .builtin .min) (hargs : c.args.toList = [x', y']) (hx : opdC x x' = true) (hy : opdC y y' = true) :
    QS P o a w M ι (minA (x.ev sl) (y.ev sl)) := by
  have h1 := opdC_spec (M := M) (ι := ι) hs hx
  have h2 := opdC_spec (M := M) (ι := ι) hs hy
  have hargs' : c.args = #[x', y'] := Array.toList_inj.1 hargs
  unfold minA
  split
  · rename_i k m k' n e1 e2
    rw [e1] at h1
    rw [e2] at h2
    split
    · exact ⟨.int k (if n < m then n else m), fun w' _ => by simp [execOp, ho, resolve, hc, hargs', invoke, builtin, h1.rn, h2.rn, Builtin.min_, Builtin.min2], .r _ _ (.n _ _)⟩
    · trivial
  · trivial
theorem q_mx {x y : Opd} {x' y' : Operand} {c : Go.Call} (hs : Slots M ι sl a.tmps) (ho : o.op = .call c) (hc : c.callee = .builtin .max) (hargs : c.args.toList = [x', y']) (hx : opdC x x' = true) (hy : opdC y y' = true) :
    QS P o a w M ι (maxA (x.ev sl) (y.ev sl)) := by
  have h1 := opdC_spec (M := M) (ι := ι) hs hx
  have h2 := opdC_spec (M := M) (ι := ι) hs hy
  have hargs' : c.args = #[x', y'] := Array.toList_inj.1 hargs
  unfold maxA
  split
  · rename_i k m k' n e1 e2
    rw [e1] at h1
    rw [e2] at h2
    split
    · exact ⟨.int k (if n > m then n else m), fun w' _ => by simp [execOp, ho, resolve, hc, hargs', invoke, builtin, h1.rn, h2.rn, Builtin.max_, Builtin.max2], .r _ _ (.n _ _)⟩
    · trivial
  · trivial
theorem q_nc {x : Opd} {x' : Operand} (hs : Slots M ι sl a.tmps) (ho : o.op = .nilCheck x') (hx : opdC x x' = true) : QS P o a w M ι (nilC (x.ev sl)) := by
  have h := opdC_spec (M := M) (ι := ι) hs hx
  unfold nilC
  generalize hv : a.eval x' = v at h
  split
  · rename_i e1
    rw [e1] at h
    refine ⟨v, fun w' _ => ?_, h⟩
    cases h; simp [execOp, ho, hv]
  · rename_i e1
    rw [e1] at h
    refine ⟨v, fun w' _ => ?_, h⟩
    cases h; simp [execOp, ho, hv]
  · rename_i e1
    rw [e1] at h
    refine ⟨v, fun w' _ => ?_, h⟩
    cases h; simp [execOp, ho, hv]
  · trivial
theorem q_mf {f : Nat} {caps : List Opd} {first captured : Array Operand} (hs : Slots M ι sl a.tmps) (ho : o.op = .makeFunc (.func f) first captured) (hf : first.toList = []) (hx : opdsC caps captured.toList = true) :
    QS P o a w M ι (.val (.fn f (caps.map fun x => x.ev sl))) := by
  have hf' : first = #[] := Array.toList_inj.1 hf
  obtain ⟨hl, hr⟩ := opdsC_spec (M := M) (ι := ι) hs hx
  refine ⟨.func (.func f) #[] (captured.map a.eval), fun w' _ => by simp [execOp, ho, Instr.makeFunc, hf'], ?_⟩
  have he : captured.map a.eval = (captured.toList.map a.eval).toArray := by
    apply Array.toList_inj.1; simp
  rw [he]
  refine .fn f _ _ (by simp at hl ⊢; exact hl) hr
end
end Go.Cap
namespace Go.Cap
open Go
section
variable {P : Program} {o : Oper} {a : Act} {w : World} {M : Mem} {ι : Nat → Option BI} {sl : List (Nat × AV)} {hp : List (Nat × Blk)}
theorem szOf_none {t : TypeId} (h : szOf P t = some none) (w : World) : (isAgg t).run P w = .ok false w := by
  unfold szOf at h
  split at h
  · cases hi : P.info? t <;> simp [hi] at h
  · cases hi : P.info? t <;> simp [hi] at h
  · rename_i d h1 h2 hd
    unfold isAgg
    simp only [Sem.run_bind, run_underlying hd, Result.andThen_ok]
    cases d <;> first | rfl | exact absurd rfl (h1 _) | exact absurd rfl (h2 _ _)
  · cases h
theorem szOf_some {t : TypeId} {n : Nat} (h : szOf P t = some (some n)) (w : World) : (isAgg t).run P w = .ok true w ∧ (sizeOf t).run P w = .ok n w := by
  unfold szOf at h
  split at h
  · rename_i fs hd
    cases hi : P.info? t with
    | none => simp [hi] at h
    | some i =>
      simp [hi] at h
      refine ⟨by simp [isAgg, run_underlying hd], by simp [sizeOf, typeInfo, hi, h]⟩
  · rename_i m e hd
    cases hi : P.info? t with
    | none => simp [hi] at h
    | some i =>
      simp [hi] at h
      refine ⟨by simp [isAgg, run_underlying hd], by simp [sizeOf, typeInfo, hi, h]⟩
  · simp at h
  · cases h
theorem run_load1 {t : TypeId} (h : szOf P t = some none) {ad : Addr} {v : Value} {w : World} (hc : w.cell? ad = some v) : (Instr.loadAt t (.pointer (some ad))).run P w = .ok v w := by
  simp [Instr.loadAt, Instr.sureAddr, loadVar, szOf_none h, hc]
theorem run_loadn {t : TypeId} {n : Nat} (h : szOf P t = some (some n)) {ad : Addr} {vs : List Value} {w : World} (hl : vs.length = n) (hc : ∀ (j : Nat) v, vs[j]? = some v → w.cell? (ad.add j) = some v) :
    (Instr.loadAt t (.pointer (some ad))).run P w = .ok (.agg vs.toArray) w := by
  have := run_loadCells_list (P := P) w ad vs hc
  rw [hl] at this
  simp [Instr.loadAt, Instr.sureAddr, loadVar, (szOf_some h w).1, (szOf_some h w).2, this]
theorem cell_at {g : Nat} {arr : Array Value} {e : TypeId} {f : Nat × Nat} {w : World} (h : w.heap[g]? = some (.cells arr e f)) (i : Nat) : w.cell? ⟨g, i, none⟩ = arr[i]? := by
  simp [World.cell?, h]
theorem q_ld1 {x' : Operand} {t : TypeId} (ho : o.op = .load t x') (h : szOf P t = some none) {g off : Nat} {arr : Array Value} {e : TypeId} {f : Nat × Nat} (hv : a.eval x' = .pointer (some ⟨g, off, none⟩))
    (hg : w.heap[g]? = some (.cells arr e f)) {u : Value} (hu : arr[off]? = some u) (w' : World) (he : Ext w w') : (execOp a.eval o).run P w' = .ok (.value u) w' := by
  have := run_load1 (P := P) h (ad := ⟨g, off, none⟩) (w := w') (v := u) (by rw [cell_at (he.at hg)]; exact hu)
  simp [execOp, ho, hv, this]
theorem q_ldn {x' : Operand} {t : TypeId} {n : Nat} (ho : o.op = .load t x') (h : szOf P t = some (some n)) {g off : Nat} {arr : Array Value} {e : TypeId} {f : Nat × Nat} (hv : a.eval x' = .pointer (some ⟨g, off, none⟩))
    (hg : w.heap[g]? = some (.cells arr e f)) {vs : List Value} (hl : vs.length = n) (hu : ∀ (j : Nat) v, vs[j]? = some v → arr[off + j]? = some v) (w' : World) (he : Ext w w') : (execOp a.eval o).run P w' = .ok (.value (.agg vs.toArray)) w' := by
  have := run_loadn (P := P) h (ad := ⟨g, off, none⟩) (w := w') (vs := vs) hl (fun j v hj => by rw [Addr.add_lit, cell_at (he.at hg)]; exact hu j v hj)
  simp [execOp, ho, hv, this]
theorem asub_get {cs : List AV} {f n j : Nat} {x : AV} (h : (asub cs f n)[j]? = some x) : cs[f + j]? = some x ∧ j < n := by
  unfold asub at h
  rw [List.getElem?_take] at h
  split at h
  · rw [List.getElem?_drop] at h; exact ⟨h, by assumption⟩
  · cases h
theorem csub_get {cs : List RV} {f n j : Nat} {x : RV} (h : (csub cs f n)[j]? = some x) : cs[f + j]? = some x ∧ j < n := by
  unfold csub at h
  rw [List.getElem?_take] at h
  split at h
  · rw [List.getElem?_drop] at h; exact ⟨h, by assumption⟩
  · cases h
theorem asub_len {cs : List AV} {f n : Nat} (h : f + n ≤ cs.length) : (asub cs f n).length = n := by simp [asub]; omega
theorem csub_len {cs : List RV} {f n : Nat} (h : f + n ≤ cs.length) : (csub cs f n).length = n := by simp [csub]; omega
theorem arr_slice {arr : Array Value} {off n : Nat} (h : off + n ≤ arr.size) : ((arr.toList.drop off).take n).length = n ∧ ∀ (j : Nat) v, ((arr.toList.drop off).take n)[j]? = some v → arr[off + j]? = some v := by
  refine ⟨by simp; omega, fun j v hj => ?_⟩
  rw [List.getElem?_take] at hj
  split at hj
  · rw [List.getElem?_drop] at hj; simpa using hj
  · cases hj
theorem q_ld {sz : Option Nat} {x : Opd} {x' : Operand} {t : TypeId} (hs : Slots M ι sl a.tmps) (hM : MSub M w) (hH : Hr M ι hp w) (ho : o.op = .load t x') (hx : opdC x x' = true) (ht : szOf P t = some sz) :
    QS P o a w M ι (ldA hp sz (x.ev sl)) := by
  have h := opdC_spec (M := M) (ι := ι) hs hx
  unfold ldA
  generalize hv : a.eval x' = v at h
  split
  · rename_i b i f e1
    rw [e1] at h
    cases h with
    | ptr _ _ _ g cap sz0 hι =>
      unfold ldB
      split
      · rename_i cs hb
        obtain ⟨bi, hbi, hBr⟩ := hH b _ hb
        rw [hι] at hbi; cases hbi
        obtain ⟨_, arr, e, hg, hsz, hone, hcap, hlen, hcs⟩ := hBr
        simp only at hlen hsz
        have hsz' : arr.size = cs.length := by rw [hsz, hlen]
        split
        · rintro ⟨rfl, hf⟩
          have hf' : f < arr.size := by omega
          refine ⟨arr[f], q_ld1 ho ht (by rw [hv, Nat.zero_mul, Nat.zero_add]) hg (Array.getElem?_eq_getElem hf'), hcs f _ _ (aget_get hf) (Array.getElem?_eq_getElem hf')⟩
        · rename_i n
          rintro ⟨rfl, hf⟩
          obtain ⟨hl, hj⟩ := arr_slice (arr := arr) (off := f) (n := n) (by omega)
          refine ⟨_, q_ldn ho ht (by rw [hv, Nat.zero_mul, Nat.zero_add]) hg hl hj, ?_⟩
          refine .agg _ _ (by rw [hl, asub_len hf]) (fun u hu => hone u (List.mem_of_mem_drop (List.mem_of_mem_take hu))) fun j c u hc hu => ?_
          exact hcs (f + j) c u (asub_get hc).1 (hj j u hu)
      · rename_i m L hb
        obtain ⟨bi, hbi, hBr⟩ := hH b _ hb
        rw [hι] at hbi; cases hbi
        obtain ⟨_, arr, e, hg, hsz, hone, hm, hlen, hrow, hcs⟩ := hBr
        simp only at hm hlen hsz
        subst hm
        have hin : ∀ f', i < L.length → f' < m → i * m + f' < arr.size := fun f' hi hf => by
          rw [hsz]
          have : (i + 1) * m ≤ cap * m := Nat.mul_le_mul_right _ (by omega)
          rw [Nat.add_mul] at this; omega
        split
        · rintro ⟨hi, hf⟩
          have hlt := hin f hi hf
          have hrl : (L.getD i []).length = m := by
            rw [List.getD_eq_getElem?_getD, List.getElem?_eq_getElem hi]; exact hrow _ (List.getElem_mem hi)
          refine ⟨arr[i * m + f], q_ld1 ho ht hv hg (Array.getElem?_eq_getElem hlt), .r _ _ (hcs i f _ _ ?_ (Array.getElem?_eq_getElem hlt))⟩
          rw [List.getElem?_eq_getElem hi]
          have := cget_get (l := L.getD i []) (i := f) (by omega)
          rw [List.getD_eq_getElem?_getD, List.getElem?_eq_getElem hi] at this ⊢
          exact this
        · rename_i n
          rintro ⟨hi, hf⟩
          have hrl : (L.getD i []).length = m := by
            rw [List.getD_eq_getElem?_getD, List.getElem?_eq_getElem hi]; exact hrow _ (List.getElem_mem hi)
          have hle : i * m + f + n ≤ arr.size := by
            rw [hsz]
            have : (i + 1) * m ≤ cap * m := Nat.mul_le_mul_right _ (by omega)
            rw [Nat.add_mul] at this; omega
          obtain ⟨hl, hj⟩ := arr_slice (arr := arr) (off := i * m + f) (n := n) hle
          refine ⟨_, q_ldn ho ht hv hg hl hj, ?_⟩
          refine .agg _ _ (by rw [hl, List.length_map, csub_len (by omega)]) (fun u hu => hone u (List.mem_of_mem_drop (List.mem_of_mem_take hu))) fun j c u hc hu => ?_
          rw [List.getElem?_map] at hc
          cases hcj : (csub (L.getD i []) f n)[j]? with
          | none => rw [hcj] at hc; cases hc
          | some y =>
            rw [hcj] at hc
            simp only [Option.map_some, Option.some.injEq] at hc
            subst hc
            have hcj' := (csub_get hcj).1
            refine .r _ _ (hcs i (f + j) y u ?_ ?_)
            · rw [List.getElem?_eq_getElem hi]
              rw [List.getD_eq_getElem?_getD, List.getElem?_eq_getElem hi] at hcj'
              exact hcj'
            · rw [← Nat.add_assoc]; exact hj j u hu
      · trivial
  · rename_i cs f e1
    rw [e1] at h
    cases h with
    | rp _ _ blk o' arr e fr hMb hvv =>
      have hg := hM _ _ _ _ hMb
      split
      · intro hf
        obtain ⟨u, hu, hr⟩ := hvv f _ (cget_get hf)
        exact ⟨u, q_ld1 ho ht hv hg hu, .r _ _ hr⟩
      · rename_i n
        intro hf
        have hle : n = 0 ∨ o' + f + n ≤ arr.size := by
          rcases Nat.eq_zero_or_pos n with h0 | h0
          · exact .inl h0
          · obtain ⟨u, hu, _⟩ := hvv (f + (n - 1)) _ (cget_get (by omega))
            have := (Array.getElem?_eq_some_iff.1 hu).1
            exact .inr (by omega)
        have key : ∃ vs : List Value, vs.length = n ∧ ∀ (j : Nat) v, vs[j]? = some v → arr[o' + f + j]? = some v := by
          rcases hle with rfl | hle
          · exact ⟨[], rfl, fun j v h => by simp at h⟩
          · obtain ⟨hl, hj⟩ := arr_slice (arr := arr) (off := o' + f) (n := n) hle
            exact ⟨_, hl, hj⟩
        obtain ⟨vs, hl, hj⟩ := key
        have hrel : ∀ (j : Nat) y u, (csub cs f n)[j]? = some y → vs[j]? = some u → Rr M y u := fun j y u hy hu => by
          obtain ⟨u', hu', hr⟩ := hvv (f + j) y (csub_get hy).1
          have := hj j u hu
          rw [Nat.add_assoc, hu'] at this
          cases this; exact hr
        have hcl : (csub cs f n).length = n := csub_len hf
        refine ⟨_, q_ldn ho ht hv hg hl hj, ?_⟩
        refine .agg _ _ (by rw [hl, List.length_map, hcl]) (fun u hu => ?_) fun j c u hc hu => ?_
        · obtain ⟨j, hj1, hj2⟩ := List.getElem_of_mem hu
          have hjn : j < (csub cs f n).length := by omega
          exact (hrel j _ u (List.getElem?_eq_getElem hjn) (by rw [← hj2]; exact List.getElem?_eq_getElem hj1)).one
        · rw [List.getElem?_map] at hc
          cases hcj : (csub cs f n)[j]? with
          | none => rw [hcj] at hc; cases hc
          | some y =>
            rw [hcj] at hc
            simp only [Option.map_some, Option.some.injEq] at hc
            subst hc
            exact .r _ _ (hrel j y u hcj hu)
  · trivial
end
end Go.Cap
namespace Go.Cap
open Go
section
variable {P : Program} {o : Oper} {a : Act} {w : World} {M : Mem} {ι : Nat → Option BI} {sl : List (Nat × AV)} {hp : List (Nat × Blk)}
theorem run_bounds {b : Bool} {len cap : Nat} {lo hi : Option Value} {l h : Int} (hlo : (lo = none ∧ l = 0) ∨ ∃ k, lo = some (.int k l)) (hhi : (hi = none ∧ h = len) ∨ ∃ k, hi = some (.int k h))
    (h0 : 0 ≤ l) (h1 : l ≤ h) (h2 : h ≤ cap) (w : World) : (Instr.sliceBounds b len cap lo hi none).run P w = .ok (l.toNat, h.toNat, cap) w := by
  have e1 : (h.toNat : Int) = h := by omega
  rcases hlo with ⟨rfl, rfl⟩ | ⟨k, rfl⟩ <;> rcases hhi with ⟨rfl, rfl⟩ | ⟨k', rfl⟩
  · simp [Instr.sliceBounds]
  · simp [Instr.sliceBounds, Instr.sliceBound, asIntOf, show 0 ≤ h by omega, h2]
  · simp [Instr.sliceBounds, Instr.sliceBound, asIntOf, h0, h1]
  · simp [Instr.sliceBounds, Instr.sliceBound, asIntOf, show 0 ≤ h by omega, h2, h0, h1, e1]
theorem bnd_spec {x : Option Opd} {x' : Option Operand} {d v : Int} (hs : Slots M ι sl a.tmps) (hx : optC x x' = true) (hb : bnd sl x d = some v) : (x'.map a.eval = none ∧ v = d) ∨ ∃ k, x'.map a.eval = some (.int k v) := by
  unfold optC at hx
  split at hx
  · simp [bnd] at hb; exact .inl ⟨rfl, hb.symm⟩
  · rename_i x o'
    have h := opdC_spec (M := M) (ι := ι) hs hx
    unfold bnd at hb
    simp only at hb
    split at hb
    · rename_i k v' he
      rw [he] at h
      simp at hb; subst hb
      exact .inr ⟨k, by simp [h.rn]⟩
    · cases hb
  · cases hx
theorem q_sS {x : Opd} {lo hi : Option Opd} {x' : Operand} {lo' hi' : Option Operand} {t : TypeId} (hs : Slots M ι sl a.tmps) (ho : o.op = .slice t x' lo' hi' none) (hx : opdC x x' = true) (hl : optC lo lo' = true) (hh : optC hi hi' = true) (ht : isStr P t = true) :
    QS P o a w M ι (slicSO (x.ev sl) (bnd sl lo 0) (bnd sl hi (lenI (x.ev sl)))) := by
  have h := opdC_spec (M := M) (ι := ι) hs hx
  have hu := isStr_spec ht
  unfold slicSO
  split
  · rename_i l h' el eh
    unfold slicS
    split
    · rename_i s e1
      rw [e1] at h eh
      rintro ⟨h0, h1, h2⟩
      have b1 := bnd_spec hs hl el
      have b2 := bnd_spec hs hh eh
      simp only [lenI] at b2
      refine ⟨.string ⟨((s.take h'.toNat).drop l.toNat).toArray⟩, fun w' _ => ?_, .r _ _ (.s _)⟩
      have hsz : (⟨s.toArray⟩ : ByteArray).size = s.length := by simp [ByteArray.size]
      have hb := run_bounds (P := P) (b := false) (len := s.length) (cap := s.length) (lo := lo'.map a.eval) (hi := hi'.map a.eval) b1 b2 h0 h1 h2 w'
      have hext : (⟨s.toArray⟩ : ByteArray).extract l.toNat h'.toNat = ⟨((s.take h'.toNat).drop l.toNat).toArray⟩ := by
        apply ByteArray.ext
        simp [ByteArray.data_extract, List.drop_take]
      simp only [execOp, ho, h.rs, Instr.sliceAt, Instr.slice, Sem.run_bind, run_underlying hu, Result.andThen_ok, Option.map_none, Option.isSome_none, Bool.false_eq_true, if_false, hsz, hb, Sem.run_pure, hext]
    · trivial
  · trivial
theorem q_sc {sz : Nat} {x : Opd} {lo hi : Option Opd} {x' : Operand} {lo' hi' : Option Operand} {t e : TypeId} (hs : Slots M ι sl a.tmps) (hH : Hr M ι hp w) (ho : o.op = .slice t x' lo' hi' none) (hx : opdC x x' = true) (hl : optC lo lo' = true) (hh : optC hi hi' = true)
    (ht : isSlice P t = some e) (hz : sizeIs P e sz = true) : QS P o a w M ι (slicO hp sz (x.ev sl) (bnd sl lo 0) (bnd sl hi (lenI (x.ev sl)))) := by
  have h := opdC_spec (M := M) (ι := ι) hs hx
  have hu := isSlice_spec ht
  obtain ⟨ie, hie, hsz⟩ := sizeIs_spec hz
  have run : ∀ (ad : Option Addr) (n c : Nat) (l h' : Int) (w' : World), a.eval x' = .slice ad n c → ((lo'.map a.eval = none ∧ l = 0) ∨ ∃ k, lo'.map a.eval = some (.int k l)) → ((hi'.map a.eval = none ∧ h' = n) ∨ ∃ k, hi'.map a.eval = some (.int k h')) → 0 ≤ l → l ≤ h' → h' ≤ c →
      (execOp a.eval o).run P w' = .ok (.value (.slice (if c = l.toNat then ad else ad.map (·.add (l.toNat * sz))) (h'.toNat - l.toNat) (c - l.toNat))) w' := by
    intro ad n c l h' w' e1 b1 b2 h0 h1 h2
    have hb := run_bounds (P := P) (b := true) (len := n) (cap := c) (lo := lo'.map a.eval) (hi := hi'.map a.eval) b1 b2 h0 h1 h2 w'
    simp only [execOp, ho, e1, Instr.sliceAt, Instr.slice, Sem.run_bind, run_underlying hu, Result.andThen_ok, Option.map_none, hb, sizeOf, typeInfo, run_program, hie, Sem.run_pure, hsz]
  unfold slicO
  generalize hv : a.eval x' = v at h
  split
  · rename_i l h' el eh
    have b1 := bnd_spec hs hl el
    unfold slic
    split
    · rename_i g L e1
      rw [e1] at h eh
      have b2 := bnd_spec hs hh eh
      simp only [lenI] at b2
      rintro ⟨⟨h0, h1, h2⟩, hrows⟩
      have main : ∀ (szr blk off c : Nat) (arr : Array Value) (e' : TypeId) (f : Nat × Nat) (vals : Nat → Nat → Value), M blk = some (arr, e', f) → L.length ≤ c → c ≤ maxLen → (∀ r ∈ L, r.length = szr) →
          (∀ i j, i < L.length → j < szr → arr[off + (i * szr + j)]? = some (vals i j)) → (∀ (i j : Nat) x, (L[i]?).bind (·[j]?) = some x → Rr M x (vals i j)) → v = .slice (some ⟨blk, off, none⟩) L.length c →
          ∃ u, (∀ w', Ext w w' → (execOp a.eval o).run P w' = .ok (.value u) w') ∧ Ar M ι (.r (.ro none ((L.take h'.toNat).drop l.toNat))) u := by
        intro szr blk off c arr e' f vals hM hlc hc hr ha hvv hvs
        rw [hvs] at hv
        refine ⟨_, fun w' _ => run _ _ _ l h' w' hv b1 b2 h0 h1 (by omega), .r _ _ ?_⟩
        have hlen : ((L.take h'.toNat).drop l.toNat).length = h'.toNat - l.toNat := by simp; omega
        by_cases hemp : h'.toNat - l.toNat = 0
        · have : (L.take h'.toNat).drop l.toNat = [] := List.eq_nil_of_length_eq_zero (by omega)
          rw [this, hemp]
          refine .emp _ _ (by omega) (fun hn => ?_)
          split at hn <;> cases hn
        · have hpos : 0 < L.length := by omega
          have hszr : szr = sz := by rw [← hr _ (List.getElem_mem hpos), hrows _ (List.getElem_mem hpos)]
          subst hszr
          rw [if_neg (by omega)]
          simp only [Option.map_some, Addr.add_lit]
          have := Rr.ro (M := M) szr ((L.take h'.toNat).drop l.toNat) blk (off + l.toNat * szr) (c - l.toNat) arr e' f (fun i j => vals (l.toNat + i) j) hM (by omega) (by omega)
            (fun r hr' => hr r (List.mem_of_mem_take (List.mem_of_mem_drop hr')))
            (fun i j hi hj => by
              have := ha (l.toNat + i) j (by omega) hj
              rw [← this]
              congr 1
              rw [Nat.add_mul]; omega)
            (fun i j y hy => by
              refine hvv (l.toNat + i) j y ?_
              rw [List.getElem?_drop, List.getElem?_take] at hy
              split at hy
              · exact hy
              · cases hy)
          rwa [hlen] at this
      cases h with
      | r _ _ h =>
        cases h with
        | emp ad c hc hnil =>
          simp only [List.length_nil, Int.natCast_zero] at h2 b2
          have hl0 : l = 0 := by omega
          have hh0 : h' = 0 := by omega
          subst hl0; subst hh0
          refine ⟨_, fun w' _ => run _ _ _ 0 0 w' hv b1 (by simpa using b2) (by omega) (by omega) (by omega), .r _ _ ?_⟩
          refine .emp _ _ (by omega) (fun hn => ?_)
          cases ad with
          | none => have := hnil rfl; omega
          | some ad => split at hn <;> simp at hn
        | ro szr _ blk off c arr e' f vals hM hlc hc hr ha hvv => exact main szr blk off c arr e' f vals hM hlc hc hr ha hvv rfl
        | own szr _ g c arr e' vals hM hlc hc hr hss h1' ha hvv => exact main szr g 0 c arr e' (0, 0) vals hM hlc hc hr (by simpa using ha) hvv rfl
    · rename_i b st n e1
      rw [e1] at h eh
      have b2 := bnd_spec hs hh eh
      simp only [lenI] at b2
      split
      · rename_i m L hb
        split
        · rename_i hm
          subst hm
          rintro ⟨h0, h1, h2⟩
          obtain ⟨bi, hbi, hBr⟩ := hH b _ hb
          cases h with
          | slv _ cap sz0 hι =>
            have hl0 : l = 0 := by omega
            have hh0 : h' = 0 := by omega
            subst hl0; subst hh0
            refine ⟨_, fun w' _ => run _ _ _ 0 0 w' hv b1 b2 (by omega) (by omega) (by omega), ?_⟩
            exact .slv b cap sz0 hι
          | sle _ _ ad bi' hι =>
            have hl0 : l = 0 := by omega
            have hh0 : h' = 0 := by omega
            subst hl0; subst hh0
            refine ⟨_, fun w' _ => run _ _ _ 0 0 w' hv b1 b2 (by omega) (by omega) (by omega), ?_⟩
            exact .sle b _ _ bi' hι
          | sl _ _ _ c g cap sz0 hι hn hc hmx =>
            rw [hι] at hbi; cases hbi
            obtain ⟨_, arr, e', _, _, _, hszz, _⟩ := hBr
            simp only at hszz
            subst hszz
            refine ⟨_, fun w' _ => run _ _ _ l h' w' hv b1 b2 h0 h1 (by omega), ?_⟩
            by_cases hcl : c = l.toNat
            · rw [if_pos hcl]
              have e0 : h'.toNat - l.toNat = 0 := by omega
              have e2 : c - l.toNat = 0 := by omega
              rw [e0, e2]
              exact .sle b _ _ _ hι
            · rw [if_neg hcl]
              simp only [Option.map_some, Addr.add_lit]
              have := Ar.sl (M := M) (ι := ι) b (st + l.toNat) (h'.toNat - l.toNat) (c - l.toNat) g cap m hι (by omega) (by omega) hmx
              rwa [Nat.add_mul] at this
        · trivial
      · trivial
    · rename_i e1
      rw [e1] at h eh
      have b2 := bnd_spec hs hh eh
      simp only [lenI] at b2
      rintro ⟨rfl, rfl⟩
      have := h.rnil
      subst this
      exact ⟨_, fun w' _ => run _ _ _ 0 0 w' hv b1 (by simpa using b2) (by omega) (by omega) (by omega), .r _ _ .nil⟩
    · trivial
  · trivial
theorem bytes_fold : ∀ (ns : List Int) (s : ByteArray), ns.foldl (fun r n => r.push (UInt8.ofNat n.toNat)) s = ⟨(s.data.toList ++ ns.map fun n => UInt8.ofNat n.toNat).toArray⟩
  | [], s => by simp
  | n :: ns, s => by
    rw [List.foldl_cons, bytes_fold ns]
    simp [ByteArray.push]
theorem isByte_list : ∀ {L : List (List RV)}, (∀ r ∈ L, isByte r) → ∃ ns : List Int, L = ns.map fun n => [RV.n .u8 n]
  | [], _ => ⟨[], rfl⟩
  | r :: L, h => by
    obtain ⟨x, hx⟩ := h r (by simp)
    obtain ⟨ns, hn⟩ := isByte_list fun r' hr => h r' (List.mem_cons_of_mem _ hr)
    exact ⟨x :: ns, by simp [hx, hn]⟩
theorem q_cs {x : Opd} {x' : Operand} {s d e : TypeId} (hs : Slots M ι sl a.tmps) (hM : MSub M w) (hH : Hr M ι hp w) (ho : o.op = .convert s d x') (hx : opdC x x' = true) (h1 : isStr P d = true) (h2 : isSlice P s = some e) (h3 : isIntK P e .u8 = true) :
    QS P o a w M ι (strOf hp (x.ev sl)) := by
  have h := opdC_spec (M := M) (ι := ι) hs hx
  have hd := isStr_spec h1
  have hsl := isSlice_spec h2
  have he := isIntK_spec h3
  have run0 : ∀ (n c : Nat) (w' : World), a.eval x' = .slice none n c → (execOp a.eval o).run P w' = .ok (.value (.string ⟨([] : List UInt8).toArray⟩)) w' := by
    intro n c w' e1
    simp only [execOp, ho, e1, Sem.run_bind, run_convert_bytes_string w' s d e none n c hsl he hd, Conv.bytesToString, Sem.run_pure, Result.andThen_ok]
    rfl
  have run : ∀ (ad : Addr) (c : Nat) (ns : List Int) (w' : World), a.eval x' = .slice (some ad) ns.length c → (∀ (j : Nat) (n : Int), ns[j]? = some n → w'.cell? (ad.add j) = some (.int .u8 n)) →
      (execOp a.eval o).run P w' = .ok (.value (.string ⟨(ns.map fun n => UInt8.ofNat n.toNat).toArray⟩)) w' := by
    intro ad c ns w' e1 hc
    have hl := run_loadCells_list (P := P) w' ad (ns.map (Value.int .u8)) (fun j v hv => by
      rw [List.getElem?_map] at hv
      cases hj : ns[j]? with
      | none => rw [hj] at hv; cases hv
      | some n => rw [hj] at hv; simp at hv; subst hv; exact hc j n hj)
    rw [List.length_map] at hl
    have hr := run_bytesToString (P := P) w' ad ns.length c ns hl
    rw [bytes_fold] at hr
    simp only [execOp, ho, e1, Sem.run_bind, run_convert_bytes_string w' s d e (some ad) ns.length c hsl he hd, hr, Result.andThen_ok, Sem.run_pure]
    congr 4
  have bytesOf : ∀ ns : List Int, (ns.map fun n => [RV.n .u8 n]).map byteOf = ns.map fun n => UInt8.ofNat n.toNat := by
    intro ns; rw [List.map_map]; rfl
  unfold strOf
  generalize hv : a.eval x' = v at h
  split
  · rename_i e1
    rw [e1] at h
    have := h.rnil
    subst this
    exact ⟨_, fun w' _ => run0 _ _ w' hv, .r _ _ (.s _)⟩
  · rename_i g L e1
    rw [e1] at h
    intro hb
    obtain ⟨ns, rfl⟩ := isByte_list hb
    rw [bytesOf]
    have main : ∀ (szr blk off c : Nat) (arr : Array Value) (e' : TypeId) (f : Nat × Nat) (vals : Nat → Nat → Value), M blk = some (arr, e', f) → (∀ r ∈ ns.map fun n => [RV.n .u8 n], r.length = szr) →
        (∀ i j, i < (ns.map fun n => [RV.n .u8 n]).length → j < szr → arr[off + (i * szr + j)]? = some (vals i j)) → (∀ (i j : Nat) x, ((ns.map fun n => [RV.n .u8 n])[i]?).bind (·[j]?) = some x → Rr M x (vals i j)) → v = .slice (some ⟨blk, off, none⟩) (ns.map fun n => [RV.n .u8 n]).length c →
        ∃ u, (∀ w', Ext w w' → (execOp a.eval o).run P w' = .ok (.value u) w') ∧ Ar M ι (.r (.s (ns.map fun n => UInt8.ofNat n.toNat))) u := by
      intro szr blk off c arr e' f vals hMb hr ha hvv hvs
      rw [hvs, List.length_map] at hv
      refine ⟨_, fun w' hw => run _ _ ns w' hv fun j n hj => ?_, .r _ _ (.s _)⟩
      have hjl : j < ns.length := (List.getElem?_eq_some_iff.1 hj).1
      have hszr : szr = 1 := (hr [RV.n .u8 n] (List.mem_map.2 ⟨n, List.mem_of_getElem? hj, rfl⟩)).symm
      subst hszr
      have h1 := ha j 0 (by simpa using hjl) (by omega)
      have h2 := hvv j 0 (.n .u8 n) (by simp [hj])
      cases hvj : vals j 0 <;> rw [hvj] at h2 <;> cases h2
      rw [Addr.add_lit, cell_at (hw.at (hM _ _ _ _ hMb))]
      rw [hvj] at h1
      simpa using h1
    cases h with
    | r _ _ h =>
      generalize hL : (ns.map fun n => [RV.n .u8 n]) = L at h main
      cases h with
      | emp ad c hc =>
        have : ns = [] := by simpa using hL
        subst this
        cases ad with
        | none => exact ⟨_, fun w' _ => run0 _ _ w' hv, .r _ _ (.s _)⟩
        | some ad => exact ⟨_, fun w' _ => run ad c [] w' hv (fun j n hj => by simp at hj), .r _ _ (.s _)⟩
      | ro szr _ blk off c arr e' f vals hMb hlc hc hr ha hvv => exact main szr blk off c arr e' f vals hMb hr ha hvv rfl
      | own szr _ g c arr e' vals hMb hlc hc hr hss h1' ha hvv => exact main szr g 0 c arr e' (0, 0) vals hMb hr (by simpa using ha) hvv rfl
  · rename_i b st n e1
    rw [e1] at h
    split
    · rename_i m L hbk
      rintro ⟨hle, hb⟩
      obtain ⟨ns, hns⟩ := isByte_list hb
      rw [hns, bytesOf]
      have hlen : ns.length = n := by
        have := congrArg List.length hns
        simp at this; omega
      obtain ⟨bi, hbi, hBr⟩ := hH b _ hbk
      cases h with
      | slv =>
        have : ns = [] := List.eq_nil_of_length_eq_zero hlen
        subst this
        exact ⟨_, fun w' _ => run0 _ _ w' hv, .r _ _ (.s _)⟩
      | sle _ _ ad =>
        have : ns = [] := List.eq_nil_of_length_eq_zero hlen
        subst this
        cases ad with
        | none => exact ⟨_, fun w' _ => run0 _ _ w' hv, .r _ _ (.s _)⟩
        | some ad => exact ⟨_, fun w' _ => run ad 0 [] w' hv (fun j n hj => by simp at hj), .r _ _ (.s _)⟩
      | sl _ _ _ c g cap sz0 hι hn hc hmx =>
        rw [hι] at hbi; cases hbi
        obtain ⟨_, arr, e', hg, hsz, _, hm, hLc, hrow, hcs⟩ := hBr
        simp only at hm hsz hLc
        subst hm
        subst hlen
        refine ⟨_, fun w' hw => run _ _ ns w' hv fun j q hj => ?_, .r _ _ (.s _)⟩
        have hjl : j < ns.length := (List.getElem?_eq_some_iff.1 hj).1
        have hrj : L[st + j]? = some [RV.n .u8 q] := by
          have h1 : ((L.drop st).take ns.length)[j]? = some [RV.n .u8 q] := by rw [hns, List.getElem?_map, hj]; rfl
          rw [List.getElem?_take, if_pos hjl, List.getElem?_drop] at h1
          exact h1
        have hsz1 : m = 1 := (hrow _ (List.mem_of_getElem? hrj)).symm
        subst hsz1
        have hlt : st + j < arr.size := by
          have := (List.getElem?_eq_some_iff.1 hrj).1
          omega
        have h2 := hcs (st + j) 0 (.n .u8 q) arr[st + j] (by rw [hrj]; rfl) (by simp [hlt])
        rw [Addr.add_lit, cell_at (hw.at hg), Nat.mul_one, Array.getElem?_eq_getElem hlt]
        generalize arr[st + j] = u at h2
        cases h2; rfl
    · trivial
  · trivial
end
end Go.Cap
namespace Go.Cap
open Go
section
variable {P : Program} {o : Oper} {a : Act} {w : World} {M : Mem} {ι : Nat → Option BI} {sl : List (Nat × AV)} {hp : List (Nat × Blk)}
theorem rvs_vals {cs : List AV} {rs : List RV} {vs : List Value} (h : rvs cs = some rs) (hl : vs.length = cs.length) (hr : ∀ (j : Nat) c v, cs[j]? = some c → vs[j]? = some v → Ar M ι c v) :
    vs.length = rs.length ∧ ∀ (j : Nat) x v, rs[j]? = some x → vs[j]? = some v → Rr M x v := by
  have := rvs_spec h
  subst this
  refine ⟨by simpa using hl, fun j x v hx hv => ?_⟩
  have := hr j (.r x) v (by rw [List.getElem?_map, hx]; rfl) hv
  cases this with | r _ _ h => exact h
theorem run_eqFields (d : Nat) : ∀ (ks : List RV) (fs : List Field) (n : Nat) (xs ys : List RV) (us vs : List Value) (b : Bool) (w : World), plainC P ks fs n = true → eqCells ks (xs.drop n) (ys.drop n) = some b →
    (us.length = xs.length ∧ ∀ (j : Nat) x v, xs[j]? = some x → us[j]? = some v → Rr M x v) → (vs.length = ys.length ∧ ∀ (j : Nat) x v, ys[j]? = some x → vs[j]? = some v → Rr M x v) →
    (Op.eqFields (d + 1) us.toArray vs.toArray fs).run P w = .ok b w
  | [], [], n, xs, ys, us, vs, b, w, _, he, _, _ => by
    cases hx : xs.drop n <;> cases hy : ys.drop n <;> rw [hx, hy] at he <;> simp [eqCells] at he
    subst he; simp [Op.eqFields]
  | [], _ :: _, n, xs, ys, us, vs, b, w, hp, _, _, _ => by simp [plainC] at hp
  | _ :: _, [], n, xs, ys, us, vs, b, w, hp, _, _, _ => by simp [plainC] at hp
  | k :: ks, f :: fs, n, xs, ys, us, vs, b, w, hp, he, hu, hv => by
    simp only [plainC, Bool.and_eq_true, decide_eq_true_eq, bne_iff_ne] at hp
    obtain ⟨⟨⟨hoff, hname⟩, hkind⟩, hrest⟩ := hp
    cases hx : xs.drop n with
    | nil => rw [hx] at he; simp [eqCells] at he
    | cons x xr =>
      cases hy : ys.drop n with
      | nil => rw [hx, hy] at he; simp [eqCells] at he
      | cons y yr =>
        rw [hx, hy] at he
        simp only [eqCells] at he
        cases hc : eqCell k x y with
        | none => simp [hc] at he
        | some b1 =>
          cases hr : eqCells ks xr yr with
          | none => simp [hc, hr] at he
          | some b2 =>
            simp [hc, hr] at he
            have hxn : xs[n]? = some x := by
              have := congrArg (·[0]?) hx
              simpa using this
            have hyn : ys[n]? = some y := by
              have := congrArg (·[0]?) hy
              simpa using this
            have hxr : xs.drop (n + 1) = xr := by rw [← List.drop_drop, hx]; rfl
            have hyr : ys.drop (n + 1) = yr := by rw [← List.drop_drop, hy]; rfl
            have hnu : n < us.length := by rw [hu.1]; exact (List.getElem?_eq_some_iff.1 hxn).1
            have hnv : n < vs.length := by rw [hv.1]; exact (List.getElem?_eq_some_iff.1 hyn).1
            have r1 := hu.2 n x _ hxn (List.getElem?_eq_getElem hnu)
            have r2 := hv.2 n y _ hyn (List.getElem?_eq_getElem hnv)
            have ih := run_eqFields d ks fs (n + 1) xs ys us vs b2 w hrest (by rw [hxr, hyr]; exact hr) hu hv
            have key : (isAgg f.type).run P w = .ok false w ∧ (Op.equalIn (d + 1) f.type us[n] vs[n]).run P w = .ok b1 w := by
              generalize us[n] = u at r1
              generalize vs[n] = v at r2
              cases k with
              | n k z =>
                have ht := isIntK_spec hkind
                cases x <;> cases y <;> simp [eqCell] at hc
                obtain ⟨⟨rfl, rfl⟩, rfl⟩ := hc
                cases r1; cases r2
                exact ⟨by simp [isAgg, run_underlying ht], run_equalIn_int w d f.type _ _ _ _ ht⟩
              | b z =>
                have ht := isBool_spec hkind
                cases x <;> cases y <;> simp [eqCell] at hc
                subst hc
                cases r1; cases r2
                exact ⟨by simp [isAgg, run_underlying ht], run_equalIn_bool' w d f.type _ _ ht⟩
              | s z =>
                have ht := isStr_spec hkind
                cases x <;> cases y <;> simp [eqCell] at hc
                subst hc
                cases r1; cases r2
                refine ⟨by simp [isAgg, run_underlying ht], ?_⟩
                rw [run_equalIn_string w d f.type _ _ ht]
                simp [ByteArray.toList_eq]
              | nil => cases hkind
              | ro g L => cases hkind
              | j => cases hkind
            have p1 : (part f.type us.toArray f.offset).run P w = .ok us[n] w := by
              rw [hoff]; simp [part, key.1, hnu]
            have p2 : (part f.type vs.toArray f.offset).run P w = .ok vs[n] w := by
              rw [hoff]; simp [part, key.1, hnv]
            simp only [Op.eqFields, ne_eq, hname, not_false_eq_true, if_true, Sem.run_bind, p1, p2, key.2, Result.andThen_ok]
            subst he
            cases b1
            · simp
            · simp [ih]
theorem q_eqs {neg : Bool} {ks : List RV} {x y : Opd} {x' y' : Operand} {t u : TypeId} (hs : Slots M ι sl a.tmps) (ho : o.op = .binOp (if neg then .neq else .eql) t x' y' u) (hx : opdC x x' = true) (hy : opdC y y' = true) (ht : structEqC P t ks = true) :
    QS P o a w M ι (eqAgg ks neg (x.ev sl) (y.ev sl)) := by
  have h1 := opdC_spec (M := M) (ι := ι) hs hx
  have h2 := opdC_spec (M := M) (ι := ι) hs hy
  unfold structEqC at ht
  split at ht
  case h_2 => cases ht
  rename_i fs hu
  simp only [Bool.and_eq_true, Bool.not_eq_true'] at ht
  obtain ⟨⟨hpl, hst⟩, hgd⟩ := ht
  have hfo : P.fieldsOf t = fs := by simp [Program.fieldsOf, hu]
  unfold eqAgg
  generalize hv1 : a.eval x' = v1 at h1
  generalize hv2 : a.eval y' = v2 at h2
  split
  · rename_i cs1 cs2 e1 e2
    rw [e1] at h1
    rw [e2] at h2
    split
    · rename_i xs ys hx1 hy1
      split
      · rename_i b hb
        cases h1 with
        | agg _ us hl1 ho1 hr1 =>
          cases h2 with
          | agg _ vs hl2 ho2 hr2 =>
            refine ⟨.bool (neg ^^ b), fun w' _ => ?_, .r _ _ (.b _)⟩
            have r1 := rvs_vals hx1 hl1 hr1
            have r2 := rvs_vals hy1 hl2 hr2
            have he := run_eqFields (P := P) (M := M) 9998 ks fs.toList 0 xs ys us vs b w' hpl (by simpa using hb) r1 r2
            have hq : (Op.equalIn 10000 t (.agg us.toArray) (.agg vs.toArray)).run P w' = .ok b w' := by
              have := run_equalIn_struct (P := P) w' 9999 t us.toArray vs.toArray (by rw [hfo]; exact hu) hst
              rw [hfo] at this
              exact this.trans he
            have hg : (eqGuard (if neg then .neq else .eql) t x' y' (.agg us.toArray) (.agg vs.toArray)).run P w' = .ok () w' := run_eqGuard_agg w' _ t x' y' _ _ hgd
            cases neg
            · simp only [execOp, ho, hv1, hv2, Sem.run_bind, Bool.false_eq_true, if_false] at hg ⊢
              simp only [hg, Result.andThen_ok, run_eql_struct, hq, Sem.run_pure]
              cases b <;> rfl
            · simp only [execOp, ho, hv1, hv2, Sem.run_bind, if_true] at hg ⊢
              simp only [hg, Result.andThen_ok, run_neq_struct, hq, Sem.run_pure]
              cases b <;> rfl
      · trivial
    · trivial
  · trivial
theorem foldl_lay (vs : List Value) : ∀ (k : Nat) (cells : Array Value) (off : Nat), off + k + vs.length ≤ cells.size →
    ((vs.zipIdx k).foldl (fun cs (p : Value × Nat) => cs.setIfInBounds (off + p.2) p.1) cells).toList = cells.toList.take (off + k) ++ vs ++ cells.toList.drop (off + k + vs.length) := by
  induction vs with
  | nil => intro k cells off h; simp
  | cons v vs ih =>
    intro k cells off h
    simp only [List.zipIdx_cons, List.foldl_cons, List.length_cons] at h ⊢
    rw [ih (k + 1) _ off (by simp; omega)]
    have hk : off + k < cells.toList.length := by simp; omega
    simp only [Array.toList_setIfInBounds]
    have e := list_seg_step cells.toList (off + k) v vs (by simp; omega)
    rw [show off + k + 1 + vs.length = off + k + (vs.length + 1) by omega] at e
    rw [show off + (k + 1) = off + k + 1 from by omega, show off + k + 1 + vs.length = off + k + (vs.length + 1) by omega]
    exact e
theorem lay_rel {cs vs : List AV} {us ws : List Value} {off : Nat} (hl : us.length = cs.length) (h1 : ∀ v ∈ us, v.oneCell' = true) (hr : ∀ (j : Nat) c v, cs[j]? = some c → us[j]? = some v → Ar M ι c v)
    (hl' : ws.length = vs.length) (h1' : ∀ v ∈ ws, v.oneCell' = true) (hr' : ∀ (j : Nat) c v, vs[j]? = some c → ws[j]? = some v → Ar M ι c v) (hle : off + vs.length ≤ cs.length) :
    (us.take off ++ ws ++ us.drop (off + ws.length)).length = (lay cs off vs).length ∧ (∀ v ∈ us.take off ++ ws ++ us.drop (off + ws.length), v.oneCell' = true) ∧
      ∀ (j : Nat) c v, (lay cs off vs)[j]? = some c → (us.take off ++ ws ++ us.drop (off + ws.length))[j]? = some v → Ar M ι c v := by
  rw [lay_eq _ _ _ hle]
  refine ⟨by simp; omega, ?_, ?_⟩
  · intro v hv
    simp only [List.mem_append] at hv
    rcases hv with (hv | hv) | hv
    · exact h1 v (List.mem_of_mem_take hv)
    · exact h1' v hv
    · exact h1 v (List.mem_of_mem_drop hv)
  · intro j c v hc hv
    simp only [List.getElem?_append, List.length_append, List.length_take, List.getElem?_take, List.getElem?_drop] at hc hv
    have m1 : min off cs.length = off := by omega
    have m2 : min off us.length = off := by omega
    rw [m1] at hc
    rw [m2, hl'] at hv
    split at hc
    · rename_i h
      rw [if_pos h] at hv
      split at hc
      · rename_i h2
        rw [if_pos h2] at hv
        simp only [h2, if_true] at hc hv
        exact hr j c v hc hv
      · rename_i h2
        rw [if_neg h2] at hv
        exact hr' _ c v hc hv
    · rename_i h
      rw [if_neg h] at hv
      exact hr _ c v hc hv
theorem fill_rel (place : Nat → Option (Nat × Nat)) : ∀ (ps : List (Nat × Nat × AV)) (qs : List (Nat × Value)) (zs cs : List AV) (us : List Value),
    qs.length = ps.length → (∀ (j : Nat) p q, ps[j]? = some p → qs[j]? = some q → place q.1 = some (p.1, p.2.1) ∧ Ar M ι p.2.2 q.2) →
    us.length = zs.length → (∀ v ∈ us, v.oneCell' = true) → (∀ (j : Nat) c v, zs[j]? = some c → us[j]? = some v → Ar M ι c v) → fillA zs ps = some cs →
    ∃ ws : List Value, Instr.fill place us.toArray qs = some ws.toArray ∧ ws.length = cs.length ∧ (∀ v ∈ ws, v.oneCell' = true) ∧ ∀ (j : Nat) c v, cs[j]? = some c → ws[j]? = some v → Ar M ι c v
  | [], [], zs, cs, us, _, _, hl, h1, hr, hf => by
    simp [fillA] at hf; subst hf
    exact ⟨us, rfl, hl, h1, hr⟩
  | [], _ :: _, _, _, _, hlen, _, _, _, _, _ => by simp at hlen
  | _ :: _, [], _, _, _, hlen, _, _, _, _, _ => by simp at hlen
  | (off, sz, v) :: ps, (i, u) :: qs, zs, cs, us, hlen, hp, hl, h1, hr, hf => by
    simp only [fillA] at hf
    cases hvc : v.cells with
    | none => simp [hvc] at hf
    | some vs =>
      simp only [hvc] at hf
      split at hf
      case isFalse => cases hf
      rename_i hcond
      obtain ⟨hsz, hle⟩ := hcond
      obtain ⟨hplace, har⟩ := hp 0 _ _ rfl rfl
      obtain ⟨ws, hws, hwl, hw1, hwr⟩ := har.cells hvc
      obtain ⟨k1, k2, k3⟩ := lay_rel (M := M) (ι := ι) (off := off) hl h1 hr hwl hw1 hwr (by omega)
      obtain ⟨rs, hrs, hrest⟩ := fill_rel place ps qs (lay zs off vs) cs _ (by simpa using hlen) (fun j p q hj hq => hp (j + 1) p q (by simpa using hj) (by simpa using hq)) k1 k2 k3 hf
      refine ⟨rs, ?_, hrest⟩
      simp only [Instr.fill, hplace, hws]
      have e1 : ws.toArray.size = sz := by simp; omega
      have e2 : ¬ (off + ws.toArray.size > us.toArray.size) := by simp; omega
      simp only [e1, ne_eq, not_true_eq_false, decide_false, Bool.false_or, decide_eq_true_eq]
      rw [e1] at e2
      rw [if_neg (by simpa using e2)]
      rw [← hrs]
      congr 1
      apply Array.toList_inj.1
      have := foldl_lay ws 0 us.toArray off (by simp; omega)
      simp only [Nat.add_zero] at this
      rw [← Array.foldl_toList]
      simpa using this
end
end Go.Cap
namespace Go.Cap
open Go
section
variable {P : Program} {o : Oper} {a : Act} {w : World} {M : Mem} {ι : Nat → Option BI} {sl : List (Nat × AV)} {hp : List (Nat × Blk)}
theorem places_of : ∀ (fs : List Field), fieldsOk P fs = true → ∃ places, fs.mapM (fun f => (P.info? f.type).map fun i => (f.offset, i.size)) = some places ∧
    ∀ (k : Nat) f, fs[k]? = some f → ∃ i, P.info? f.type = some i ∧ places[k]? = some (f.offset, i.size)
  | [], _ => ⟨[], by simp, fun k f h => by simp at h⟩
  | f :: fs, h => by
    simp only [fieldsOk, Bool.and_eq_true] at h
    obtain ⟨i, hi⟩ := Option.isSome_iff_exists.1 h.1
    obtain ⟨places, hp, hk⟩ := places_of fs h.2
    refine ⟨(f.offset, i.size) :: places, by simp [List.mapM_cons, hi, hp], fun k f' hf => ?_⟩
    cases k with
    | zero => simp at hf; subst hf; exact ⟨i, hi, rfl⟩
    | succ k => simpa using hk k f' (by simpa using hf)
theorem partsC_spec {fs : List Field} : ∀ {ps : List (Nat × Nat × Opd)} {os : List (Nat × Operand)}, partsC P ps fs os = true → os.length = ps.length ∧
    ∀ (j : Nat) p q, ps[j]? = some p → os[j]? = some q → ∃ f i, fs[q.1]? = some f ∧ f.offset = p.1 ∧ P.info? f.type = some i ∧ i.size = p.2.1 ∧ opdC p.2.2 q.2 = true
  | [], [], _ => ⟨rfl, fun j p q h => by simp at h⟩
  | [], _ :: _, h => by simp [partsC] at h
  | (_, _, _) :: _, [], h => by simp [partsC] at h
  | (off, sz, x) :: ps, (k, o) :: os, h => by
    simp only [partsC, Bool.and_eq_true] at h
    obtain ⟨⟨h1, h2⟩, h3⟩ := h
    obtain ⟨hl, hr⟩ := partsC_spec h3
    refine ⟨by simp [hl], fun j p q hp hq => ?_⟩
    cases j with
    | zero =>
      simp at hp hq; subst hp; subst hq
      cases hf : fs[k]? with
      | none => simp [hf] at h1
      | some f =>
        simp [hf] at h1
        obtain ⟨i, hi, hs⟩ := sizeIs_spec h1.2
        exact ⟨f, i, rfl, h1.1, hi, hs, h2⟩
    | succ j => exact hr j p q (by simpa using hp) (by simpa using hq)
theorem q_bd {z : List RV} {ps : List (Nat × Nat × Opd)} {t : TypeId} {parts : Array (Nat × Operand)} {fs : Array Field} (hs : Slots M ι sl a.tmps) (ho : o.op = .build t parts) (hu : P.underlying t = some (.struct fs)) (hz : zeroIs P t z = true)
    (hf : fieldsOk P fs.toList = true) (hp : partsC P ps fs.toList parts.toList = true) : QS P o a w M ι (bldA z (ps.map fun p => (p.1, p.2.1, p.2.2.ev sl))) := by
  obtain ⟨it, v, hit, hiz, hve, _⟩ := zeroIs_spec hz
  obtain ⟨hvl, hvr⟩ := vEqs_spec (M := M) hve
  obtain ⟨places, hpl, hpk⟩ := places_of (P := P) fs.toList hf
  obtain ⟨hpsl, hpsr⟩ := partsC_spec hp
  unfold bldA
  split
  case h_2 => trivial
  rename_i cs hcs
  obtain ⟨ws, hws, hwl, hw1, hwr⟩ := fill_rel (M := M) (ι := ι) (fun k => places[k]?) (ps.map fun p => (p.1, p.2.1, p.2.2.ev sl)) (parts.toList.map fun q => (q.1, a.eval q.2)) (z.map .r) cs v.cells.toList
    (by simp [hpsl]) (fun j p q hj hq => by
      rw [List.getElem?_map] at hj hq
      cases hpj : ps[j]? with
      | none => rw [hpj] at hj; cases hj
      | some p0 =>
        cases hqj : parts.toList[j]? with
        | none => rw [hqj] at hq; cases hq
        | some q0 =>
          rw [hpj] at hj; rw [hqj] at hq
          simp at hj hq
          subst hj; subst hq
          obtain ⟨f, i, h1, h2, h3, h4, h5⟩ := hpsr j p0 q0 hpj hqj
          obtain ⟨i', h6, h7⟩ := hpk q0.1 f h1
          rw [h3] at h6; cases h6
          refine ⟨by simp only; rw [h7, h2, h4], opdC_spec hs h5⟩)
    (by simpa using hvl) (fun u hu => by
      obtain ⟨j, hj1, hj2⟩ := List.getElem_of_mem hu
      have hj : j < z.length := by omega
      exact (hvr j _ u (List.getElem?_eq_getElem hj) (by rw [← hj2]; exact List.getElem?_eq_getElem hj1)).one)
    (fun j c u hc hu => by
      rw [List.getElem?_map] at hc
      cases hzj : z[j]? with
      | none => rw [hzj] at hc; cases hc
      | some x => rw [hzj] at hc; simp at hc; subst hc; exact .r _ _ (hvr j x u hzj hu)) hcs
  refine ⟨.agg ws.toArray, fun w' _ => ?_, .agg _ _ hwl hw1 hwr⟩
  have hb : P.built t (parts.map fun q => (q.1, a.eval q.2)).toList = some ws.toArray := by
    unfold Program.built
    simp only [hit, hu, hiz, hpl]
    rw [← hws]
    simp
  have := run_build (P := P) w' t (parts.map fun q => (q.1, a.eval q.2)) ws.toArray hb
  simp only [execOp, ho, Sem.run_bind]
  rw [show (parts.map fun x => match x with | (i, x) => (i, a.eval x)) = parts.map fun q => (q.1, a.eval q.2) from rfl, this]
  rfl
theorem arrC_spec {sz : Nat} : ∀ {ps : List (Nat × Nat × Opd)} {os : List (Nat × Operand)}, arrC sz ps os = true → os.length = ps.length ∧
    ∀ (j : Nat) p q, ps[j]? = some p → os[j]? = some q → p.1 = q.1 * sz ∧ p.2.1 = sz ∧ opdC p.2.2 q.2 = true
  | [], [], _ => ⟨rfl, fun j p q h => by simp at h⟩
  | [], _ :: _, h => by simp [arrC] at h
  | (_, _, _) :: _, [], h => by simp [arrC] at h
  | (off, n, x) :: ps, (k, o) :: os, h => by
    simp only [arrC, Bool.and_eq_true, decide_eq_true_eq] at h
    obtain ⟨⟨⟨h1, h2⟩, h3⟩, h4⟩ := h
    obtain ⟨hl, hr⟩ := arrC_spec h4
    refine ⟨by simp [hl], fun j p q hp hq => ?_⟩
    cases j with
    | zero => simp at hp hq; subst hp; subst hq; exact ⟨h1, h2, h3⟩
    | succ j => exact hr j p q (by simpa using hp) (by simpa using hq)
theorem q_bdA {z : List RV} {ps : List (Nat × Nat × Opd)} {t e : TypeId} {n : Nat} {parts : Array (Nat × Operand)} {ie : TypeInfo} (hs : Slots M ι sl a.tmps) (ho : o.op = .build t parts) (hu : P.underlying t = some (.array n e)) (hz : zeroIs P t z = true)
    (hie : P.info? e = some ie) (hp : arrC ie.size ps parts.toList = true) : QS P o a w M ι (bldA z (ps.map fun p => (p.1, p.2.1, p.2.2.ev sl))) := by
  obtain ⟨it, v, hit, hiz, hve, _⟩ := zeroIs_spec hz
  obtain ⟨hvl, hvr⟩ := vEqs_spec (M := M) hve
  obtain ⟨hpsl, hpsr⟩ := arrC_spec hp
  unfold bldA
  split
  case h_2 => trivial
  rename_i cs hcs
  obtain ⟨ws, hws, hwl, hw1, hwr⟩ := fill_rel (M := M) (ι := ι) (fun i => some (i * ie.size, ie.size)) (ps.map fun p => (p.1, p.2.1, p.2.2.ev sl)) (parts.toList.map fun q => (q.1, a.eval q.2)) (z.map .r) cs v.cells.toList
    (by simp [hpsl]) (fun j p q hj hq => by
      rw [List.getElem?_map] at hj hq
      cases hpj : ps[j]? with
      | none => rw [hpj] at hj; cases hj
      | some p0 =>
        cases hqj : parts.toList[j]? with
        | none => rw [hqj] at hq; cases hq
        | some q0 =>
          rw [hpj] at hj; rw [hqj] at hq
          simp at hj hq
          subst hj; subst hq
          obtain ⟨h1, h2, h5⟩ := hpsr j p0 q0 hpj hqj
          refine ⟨by simp only; rw [h1, h2], opdC_spec hs h5⟩)
    (by simpa using hvl) (fun u hu => by
      obtain ⟨j, hj1, hj2⟩ := List.getElem_of_mem hu
      have hj : j < z.length := by omega
      exact (hvr j _ u (List.getElem?_eq_getElem hj) (by rw [← hj2]; exact List.getElem?_eq_getElem hj1)).one)
    (fun j c u hc hu => by
      rw [List.getElem?_map] at hc
      cases hzj : z[j]? with
      | none => rw [hzj] at hc; cases hc
      | some x => rw [hzj] at hc; simp at hc; subst hc; exact .r _ _ (hvr j x u hzj hu)) hcs
  refine ⟨.agg ws.toArray, fun w' _ => ?_, .agg _ _ hwl hw1 hwr⟩
  have hb : P.built t (parts.map fun q => (q.1, a.eval q.2)).toList = some ws.toArray := by
    unfold Program.built
    simp only [hit, hu, hiz, hie]
    rw [← hws]
    simp
  have := run_build (P := P) w' t (parts.map fun q => (q.1, a.eval q.2)) ws.toArray hb
  simp only [execOp, ho, Sem.run_bind]
  rw [show (parts.map fun x => match x with | (i, x) => (i, a.eval x)) = parts.map fun q => (q.1, a.eval q.2) from rfl, this]
  rfl
theorem q_fd {off : Nat} {sz : Option Nat} {x : Opd} {x' : Operand} {t : TypeId} {k : Nat} {fs : Array Field} {f : Field} (hs : Slots M ι sl a.tmps) (ho : o.op = .field t x' k) (hx : opdC x x' = true) (hu : P.underlying t = some (.struct fs)) (hf : fs[k]? = some f) (hoff : f.offset = off) (hsz : szOf P f.type = some sz) :
    QS P o a w M ι (partA off sz (x.ev sl)) := by
  have h := opdC_spec (M := M) (ι := ι) hs hx
  subst hoff
  unfold partA
  generalize hv : a.eval x' = v at h
  split
  · rename_i cs e1
    rw [e1] at h
    cases h with
    | agg _ vs hl h1 hr =>
      split
      · intro hlt
        have hlt' : f.offset < vs.length := by omega
        refine ⟨vs[f.offset], fun w' _ => ?_, hr _ _ _ (aget_get hlt) (List.getElem?_eq_getElem hlt')⟩
        simp [execOp, ho, hv, Instr.field, run_underlying hu, hf, asAgg, part, szOf_none hsz, hlt']
      · rename_i n
        intro hle
        refine ⟨.agg ((vs.drop f.offset).take n).toArray, fun w' _ => ?_, .agg _ _ (by rw [asub_len hle]; simp; omega) (fun u hu' => h1 u (List.mem_of_mem_drop (List.mem_of_mem_take hu'))) fun j c u hc hu' => ?_⟩
        · have hex : vs.toArray.extract f.offset (f.offset + n) = ((vs.drop f.offset).take n).toArray := by
            apply Array.toList_inj.1
            simp [List.extract_eq_take_drop]
          simp only [execOp, ho, hv, Instr.field, Sem.run_bind, run_underlying hu, hf, asAgg, part, (szOf_some hsz w').1, (szOf_some hsz w').2, Result.andThen_ok, Sem.run_pure, if_true, hex]
        · rw [List.getElem?_take] at hu'
          split at hu'
          · rw [List.getElem?_drop] at hu'
            exact hr _ c u (asub_get hc).1 hu'
          · cases hu'
  · trivial
theorem q_iv {len : Nat} {x i : Opd} {x' i' : Operand} {t e : TypeId} (hs : Slots M ι sl a.tmps) (ho : o.op = .index t x' i') (hx : opdC x x' = true) (hi : opdC i i' = true) (ht : isArr P t = some (len, e)) (hsz : szOf P e = some none) (hz : sizeIs P e 1 = true) :
    QS P o a w M ι (elemA len (x.ev sl) (i.ev sl)) := by
  have h1 := opdC_spec (M := M) (ι := ι) hs hx
  have h2 := opdC_spec (M := M) (ι := ι) hs hi
  have hu := isArr_spec ht
  obtain ⟨ie, hie, hs1⟩ := sizeIs_spec hz
  unfold elemA
  generalize hv : a.eval x' = v at h1
  split
  · rename_i cs k q e1 e2
    rw [e1] at h1
    rw [e2] at h2
    rintro ⟨⟨q0, q1⟩, hlen⟩
    cases h1 with
    | agg _ vs hl ho1 hr =>
      have hlt : q.toNat < cs.length := by omega
      have hlt' : q.toNat < vs.length := by omega
      refine ⟨vs[q.toNat], fun w' _ => ?_, hr _ _ _ (aget_get hlt) (List.getElem?_eq_getElem hlt')⟩
      simp [execOp, ho, hv, h2.rn, Instr.index, run_underlying hu, asIntOf, q0, q1, part, szOf_none hsz, sizeOf, typeInfo, hie, hs1, hlt']
  · trivial
theorem qv_sound {p : POp} (hs : Slots M ι sl a.tmps) (hM : MSub M w) (hH : Hr M ι hp w) (hc : chkOp P p o.op = true) : QS P o a w M ι (qv p sl hp) := by
  generalize ho : o.op = op at hc
  unfold chkOp at hc
  split at hc
  case h_1 => exact q_mv hs (.inl ho) hc
  case h_2 => exact q_mv hs (.inr ho) hc
  case h_3 => simp only [Bool.and_eq_true] at hc; exact q_pk hs ho hc.1.1 hc.1.2 hc.2
  case h_6 =>
    split at hc
    · rename_i hu
      simp only [Bool.and_eq_true] at hc; exact q_bd hs ho hu hc.1.1 hc.1.2 hc.2
    · rename_i hu
      simp only [Bool.and_eq_true] at hc
      obtain ⟨h1, h2⟩ := hc
      split at h2
      · rename_i hie; exact q_bdA hs ho hu h1 hie h2
      · cases h2
    · cases hc
  case h_8 => simp only [Bool.and_eq_true, decide_eq_true_eq] at hc; exact q_ld hs hM hH ho hc.1 hc.2
  case h_10 => simp only [Bool.and_eq_true, decide_eq_true_eq] at hc; obtain ⟨⟨⟨rfl, h1⟩, h2⟩, _⟩ := hc; exact q_bi hs ho h1 h2
  case h_11 => simp only [Bool.and_eq_true, decide_eq_true_eq] at hc; obtain ⟨⟨⟨rfl, h1⟩, h2⟩, h3⟩ := hc; exact q_bb hs ho h1 h2 h3
  case h_12 => simp only [Bool.and_eq_true, decide_eq_true_eq] at hc; obtain ⟨⟨⟨rfl, h1⟩, h2⟩, h3⟩ := hc; exact q_eqs hs ho h1 h2 h3
  case h_13 => simp only [Bool.and_eq_true, decide_eq_true_eq] at hc; obtain ⟨⟨⟨rfl, h1⟩, h2⟩, h3⟩ := hc; exact q_eqn hs ho h1 h2 h3
  case h_14 => simp only [Bool.and_eq_true, decide_eq_true_eq] at hc; obtain ⟨rfl, h1⟩ := hc; exact q_un hs ho h1
  case h_15 => simp only [Bool.and_eq_true] at hc; exact q_cv hs ho hc.1.1 hc.1.2 hc.2
  case h_16 =>
    simp only [Bool.and_eq_true] at hc
    obtain ⟨⟨h1, h2⟩, h3⟩ := hc
    split at h3
    · rename_i he; exact q_cs hs hM hH ho h1 h2 he h3
    · cases h3
  case h_17 => simp only [Bool.and_eq_true, decide_eq_true_eq] at hc; exact q_fa hs ho hc.1 hc.2
  case h_18 =>
    simp only [Bool.and_eq_true] at hc
    obtain ⟨⟨h1, h2⟩, h3⟩ := hc
    split at h3
    · rename_i he; exact q_ia hs hH ho h1 h2 he h3
    · cases h3
  case h_19 =>
    simp only [Bool.and_eq_true] at hc
    obtain ⟨⟨h1, h2⟩, h3⟩ := hc
    split at h3
    · rename_i he
      simp only [Bool.and_eq_true, decide_eq_true_eq] at h3
      obtain ⟨rfl, h3⟩ := h3
      exact q_iA hs ho h1 h2 he h3
    · cases h3
  case h_20 => simp only [Bool.and_eq_true] at hc; exact q_ix hs ho hc.1.1 hc.1.2 hc.2
  case h_21 => simp only [Bool.and_eq_true, decide_eq_true_eq] at hc; obtain ⟨h1, rfl⟩ := hc; exact q_ex hs ho h1
  case h_22 =>
    split at hc
    · rename_i h1 h2 h3
      simp only [Bool.and_eq_true] at hc; exact q_ln hs ho h1 h2 h3 hc.1 hc.2
    · cases hc
  case h_23 =>
    split at hc
    · rename_i h1 h2 h3
      simp only [Bool.and_eq_true] at hc; exact q_lS hs ho h1 h2 h3 hc.1 hc.2
    · cases hc
  case h_25 =>
    split at hc
    · rename_i h1 h2
      simp only [Bool.and_eq_true] at hc; exact q_mn hs ho h1 h2 hc.1 hc.2
    · cases hc
  case h_26 =>
    split at hc
    · rename_i h1 h2
      simp only [Bool.and_eq_true] at hc; exact q_mx hs ho h1 h2 hc.1 hc.2
    · cases hc
  case h_27 =>
    simp only [Bool.and_eq_true] at hc
    obtain ⟨⟨⟨h1, h2⟩, h3⟩, h4⟩ := hc
    split at h4
    · rename_i he; exact q_sc hs hH ho h1 h2 h3 he h4
    · cases h4
  case h_28 => simp only [Bool.and_eq_true] at hc; exact q_sS hs ho hc.1.1.1 hc.1.1.2 hc.1.2 hc.2
  case h_30 =>
    split at hc
    · rename_i f' h2
      simp only [Bool.and_eq_true, decide_eq_true_eq] at hc
      obtain ⟨rfl, h3⟩ := hc
      exact q_mf hs ho h2 h3
    · cases hc
  case h_31 => exact q_nc hs ho hc
  case h_34 =>
    simp only [Bool.and_eq_true] at hc
    obtain ⟨h1, h2⟩ := hc
    split at h2
    · rename_i hu
      split at h2
      · rename_i hf
        simp only [Bool.and_eq_true, decide_eq_true_eq] at h2
        exact q_fd hs ho h1 hu hf h2.1 h2.2
      · cases h2
    · cases h2
  case h_35 =>
    simp only [Bool.and_eq_true] at hc
    obtain ⟨⟨h1, h2⟩, h3⟩ := hc
    split at h3
    · rename_i he
      simp only [Bool.and_eq_true, decide_eq_true_eq] at h3
      obtain ⟨⟨rfl, h4⟩, h5⟩ := h3
      exact q_iv hs ho h1 h2 he h4 h5
    · cases h3
  all_goals trivial
end
end Go.Cap
