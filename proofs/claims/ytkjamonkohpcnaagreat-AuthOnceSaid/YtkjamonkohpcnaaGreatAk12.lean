/- Texts of this proof, merged. -/
import Derived.Test.YtkjamonkohpcnaaGreatAk4
import Derived.Test.YtkjamonkohpcnaaGreatProg
import Derived.KernelRfl
import Derived.Test.YtkjamonkohpcnaaGreatAk9
import Derived.Test.YtkjamonkohpcnaaGreatAk11
set_option linter.unusedVariables false
set_option linter.unusedSimpArgs false
set_option linter.unusedSectionVars false
set_option maxRecDepth 100000
set_option maxHeartbeats 16000000
namespace Go.Proofs.YtkjamonkohpcnaaGreat
namespace Be
open Go Ev
def bb : Nat → Nat → List UInt8
 | 0, _ => []
 | i + 1, n => UInt8.ofNat (n / 256 ^ i % 256) :: bb i n
@[simp] theorem bb_length : ∀ (i n : Nat), (bb i n).length = i
  | 0, _ => rfl
  | i + 1, n => by simp [bb, bb_length i n]
def putE (n w : Int) : Int := if w < 1 ∨ 8 < w then 2 else if n < 0 ∨ (w < 8 ∧ (256 ^ w.toNat : Int) ≤ n) then 3 else 0
def putS (n w : Int) : ByteArray := if putE n w = 0 then (str (bb w.toNat n.toNat)) else str []
theorem shr_eq {n j : Int} (hn : 0 ≤ n) (h0 : 0 ≤ j) (h7 : j ≤ 7) : n.fdiv (2 ^ min (8 * j).toNat IntKind.i64.bits) = n / (256 ^ j.toNat : Int) := by
 have e1 : min (8 * j).toNat IntKind.i64.bits = 8 * j.toNat := by
  have : IntKind.i64.bits = 64 := rfl
  omega
 rw [e1, Int.pow_mul, Int.fdiv_eq_ediv_of_nonneg _ (by exact Int.le_of_lt (Int.pow_pos (by decide)))]
 rfl
theorem pow_pos' (k : Nat) : (0 : Int) < 256 ^ k := Int.pow_pos (by decide)
theorem pos_div {n : Int} {k : Nat} (hn : 0 ≤ n) : 0 < n / (256 ^ k : Int) ↔ (256 ^ k : Int) ≤ n := by
 constructor
 · intro h
   have := (Int.le_ediv_iff_mul_le (pow_pos' k)).1 (show (1 : Int) ≤ n / 256 ^ k by omega)
   omega
 · intro h
   have := (Int.le_ediv_iff_mul_le (pow_pos' k)).2 (show (1 : Int) * 256 ^ k ≤ n by omega)
   omega
theorem putE_arg {n w : Int} (h : w < 1 ∨ 8 < w) : putE n w = 2 := by unfold putE; rw [if_pos h]
theorem putE_range {n w : Int} (h : ¬ (w < 1 ∨ 8 < w)) (h' : n < 0 ∨ (w < 8 ∧ (256 ^ w.toNat : Int) ≤ n)) : putE n w = 3 := by unfold putE; rw [if_neg h, if_pos h']
theorem putE_ok {n w : Int} (h : ¬ (w < 1 ∨ 8 < w)) (h' : ¬ (n < 0 ∨ (w < 8 ∧ (256 ^ w.toNat : Int) ≤ n))) : putE n w = 0 := by unfold putE; rw [if_neg h, if_neg h']
theorem putS_no {n w : Int} (h : putE n w ≠ 0) : putS n w = str [] := by unfold putS; rw [if_neg h]
theorem putS_ok {n w : Int} (h : putE n w = 0) : putS n w = (str (bb w.toNat n.toNat)) := by unfold putS; rw [if_pos h]
theorem byte_cell (n : Int) (hn : 0 ≤ n) (i : Nat) : IntKind.u8.wrap (n / (256 ^ i : Int)) = ((UInt8.ofNat (n.toNat / 256 ^ i % 256)).toNat : Int) := by
 obtain ⟨m, rfl⟩ := Int.eq_ofNat_of_zero_le hn
 rw [IntKind.wrap_u8]
 have e : ((m : Int) / (256 ^ i : Int)) = ((m / 256 ^ i : Nat) : Int) := by
  rw [Int.natCast_ediv]; congr 1
 rw [e]
 simp only [UInt8.toNat_ofNat', Int.toNat_natCast]
 omega
theorem row_set {w i : Nat} (hi : i < w) (z : Value) (n : Nat) (b : UInt8) : (List.replicate (w - i) z ++ u8s (bb i n)).set (w - 1 - i) (.int .u8 b.toNat) = List.replicate (w - (i + 1)) z ++ u8s (b :: bb i n) := by
 have e : w - i = (w - (i + 1)) + 1 := by omega
 have e2 : w - 1 - i = w - (i + 1) := by omega
 rw [e, List.replicate_succ', e2, List.append_assoc]
 rw [List.set_append_right _ _ (by simp)]
 simp [u8s]
def bval (l : List UInt8) : Nat := l.foldl (fun n b => n * 256 + b.toNat) 0
theorem bval_snoc (l : List UInt8) (b : UInt8) : bval (l ++ [b]) = bval l * 256 + b.toNat := by simp [bval]
theorem bval_take {l : List UInt8} {i : Nat} (h : i < l.length) : bval (l.take (i + 1)) = bval (l.take i) * 256 + l[i].toNat := by
 rw [List.take_succ_eq_append_getElem h, bval_snoc]
theorem foldl_lt : ∀ (l : List UInt8) (a : Nat), l.foldl (fun n (b : UInt8) => n * 256 + b.toNat) a < (a + 1) * 256 ^ l.length
 | [], a => by simp
 | b :: t, a => by
   have ih := foldl_lt t (a * 256 + b.toNat)
   have hb := b.toNat_lt
   refine Nat.lt_of_lt_of_le ih ?_
   rw [List.length_cons, Nat.pow_succ]
   have h1 : a * 256 + b.toNat + 1 ≤ (a + 1) * 256 := by omega
   have := Nat.mul_le_mul_right (256 ^ t.length) h1
   have e : (a + 1) * (256 ^ t.length * 256) = (a + 1) * 256 * 256 ^ t.length := by
    rw [Nat.mul_assoc, Nat.mul_comm (256 ^ t.length) 256]
   rw [e]; exact this
theorem bval_lt (l : List UInt8) : bval l < 256 ^ l.length := by simpa [bval] using foldl_lt l 0
theorem bval_cons_lt (b : UInt8) (t : List UInt8) : bval (b :: t) < (b.toNat + 1) * 256 ^ t.length := by simpa [bval] using foldl_lt t b.toNat
def getE (s : ByteArray) : Int := if s.size = 0 then 5 else if 8 < s.size then 4 else if s.size = 8 ∧ 127 < byteAt s 0 then 3 else 0
def getN (s : ByteArray) : Int := if getE s = 0 then bval s.data.toList else 0
theorem size_eq (s : ByteArray) : s.size = s.data.toList.length := rfl
theorem byteAt_eq {s : ByteArray} {i : Nat} (h : i < s.size) : byteAt s i = ((s.data.toList[i]'(by rw [size_eq] at h; exact h)).toNat : Int) := by
 have h' : i < s.data.toList.length := by rw [size_eq] at h; exact h
 unfold byteAt
 rw [List.getElem?_eq_getElem h']; rfl
theorem byteAt_bd (s : ByteArray) (i : Nat) : 0 ≤ byteAt s i ∧ byteAt s i ≤ 255 := by
 unfold byteAt
 have := ((s.data.toList[i]?).getD 0).toNat_lt
 omega
theorem bval_room {s : ByteArray} (h8 : s.size ≤ 8) (h1 : s.size = 8 → byteAt s 0 ≤ 127) {i : Nat} (hi : i < s.size) : (bval (s.data.toList.take i) : Int) * 256 + 255 ≤ 9223372036854775807 := by
 have hl : s.data.toList.length = s.size := rfl
 by_cases h : s.size = 8
 · have hb := h1 h
   rcases Nat.eq_zero_or_pos i with rfl | hp
   · simp [bval]
   · have h0 : 0 < s.data.toList.length := by omega
     rw [byteAt_eq (by omega)] at hb
     cases hd : s.data.toList with
     | nil => rw [hd] at h0; simp at h0
     | cons b t =>
       have hbt : b.toNat ≤ 127 := by simp only [hd] at hb; simp at hb; omega
       obtain ⟨j, rfl⟩ : ∃ j, i = j + 1 := ⟨i - 1, by omega⟩
       rw [List.take_succ_cons]
       have hlt := bval_cons_lt b (t.take j)
       have hlen : (t.take j).length ≤ 6 := by rw [List.length_take]; omega
       have hp := Nat.pow_le_pow_right (show 0 < 256 by decide) hlen
       have := Nat.mul_le_mul (show b.toNat + 1 ≤ 128 by omega) hp
       omega
 · have hlt := bval_lt (s.data.toList.take i)
   have hlen : (s.data.toList.take i).length ≤ 6 := by rw [List.length_take]; omega
   have hp := Nat.pow_le_pow_right (show 0 < 256 by decide) hlen
   omega
theorem or_byte {a b : Nat} (ha : a * 256 + 255 ≤ 9223372036854775807) (hb : b < 256) :
 ((BitVec.ofInt IntKind.i64.bits ((a : Int) * 256) ||| BitVec.ofInt IntKind.i64.bits (b : Int)).toNat : Int) = (a : Int) * 256 + b := by
 have e1 : (BitVec.ofInt IntKind.i64.bits ((a : Int) * 256)).toNat = a * 256 := by
  have : IntKind.i64.bits = 64 := rfl
  rw [this, BitVec.toNat_ofInt]
  omega
 have e2 : (BitVec.ofInt IntKind.i64.bits (b : Int)).toNat = b := by
  have : IntKind.i64.bits = 64 := rfl
  rw [this, BitVec.toNat_ofInt]
  omega
 rw [BitVec.toNat_or, e1, e2]
 have h := Nat.shiftLeft_add_eq_or_of_lt (show b < 2 ^ 8 by omega) a
 rw [Nat.shiftLeft_eq] at h
 have h' : a * 256 ||| b = a * 256 + b := by simpa using h.symm
 rw [h']
 omega
theorem or_step {s : ByteArray} {i : Nat} (hi : i < s.size) (hr : (bval (s.data.toList.take i) : Int) * 256 + 255 ≤ 9223372036854775807) :
 IntKind.i64.wrap ((BitVec.ofInt IntKind.i64.bits ((bval (s.data.toList.take i) : Int) * 256) ||| BitVec.ofInt IntKind.i64.bits (byteAt s (Int.toNat (i : Int)))).toNat : Int) = (bval (s.data.toList.take (i + 1)) : Int) := by
 have hl : i < s.data.toList.length := hi
 have hb := UInt8.toNat_lt (s.data.toList[i]'hl)
 rw [Int.toNat_natCast, byteAt_eq hi, or_byte (by omega) hb, w64 (by omega) (by omega), bval_take hl]
 rfl
theorem mul_step {s : ByteArray} {i : Nat} (hi : i < s.size) (hr : (bval (s.data.toList.take i) : Int) * 256 + 255 ≤ 9223372036854775807) :
 IntKind.i64.wrap ((bval (s.data.toList.take i) : Int) * 256 + byteAt s (Int.toNat (i : Int))) = (bval (s.data.toList.take (i + 1)) : Int) := by
 have hl : i < s.data.toList.length := hi
 have hb := UInt8.toNat_lt (s.data.toList[i]'hl)
 rw [Int.toNat_natCast, byteAt_eq hi, w64 (by omega) (by omega), bval_take hl]
 rfl
end Be
namespace Be
open Go Ev
def xo (a b : ByteArray) : List UInt8 := List.zipWith (fun x y => x ^^^ y) a.data.toList b.data.toList
theorem xo_length {a b : ByteArray} (h : a.size = b.size) : (xo a b).length = a.size := by
 have h1 : a.data.toList.length = a.size := rfl
 have h2 : b.data.toList.length = b.size := rfl
 unfold xo
 rw [List.length_zipWith]; omega
theorem row_next {l : List UInt8} {i N : Nat} {z : Value} {b : Int} (hi : i < l.length) (hN : N = l.length) (hb : b = (l[i].toNat : Int)) :
 (u8s (l.take i) ++ List.replicate (N - i) z).set i (.int .u8 b) = u8s (l.take (i + 1)) ++ List.replicate (N - (i + 1)) z := by
 subst hN hb
 have e : l.length - i = (l.length - (i + 1)) + 1 := by omega
 rw [List.take_succ_eq_append_getElem hi, u8s_append, e, List.replicate_succ, List.set_append_right _ _ (by simp; omega)]
 have e2 : i - (u8s (List.take i l)).length = 0 := by simp; omega
 rw [e2, List.set_cons_zero, List.append_assoc]
 rfl
theorem ofInt_toNat {n : Nat} (h : n < 256) : (BitVec.ofInt 8 (n : Int)).toNat = n := by
 rw [BitVec.toNat_ofInt]; omega
theorem xor_u8 (x y : UInt8) : IntKind.u8.wrap ((BitVec.ofInt IntKind.u8.bits (x.toNat : Int) ^^^ BitVec.ofInt IntKind.u8.bits (y.toNat : Int)).toNat : Int) = ((x ^^^ y).toNat : Int) := by
 have e : (BitVec.ofInt IntKind.u8.bits (x.toNat : Int) ^^^ BitVec.ofInt IntKind.u8.bits (y.toNat : Int)).toNat = (x ^^^ y).toNat := by
  rw [BitVec.toNat_xor, UInt8.toNat_xor]
  show (BitVec.ofInt 8 _).toNat ^^^ (BitVec.ofInt 8 _).toNat = _
  rw [ofInt_toNat x.toNat_lt, ofInt_toNat y.toNat_lt]
 rw [e, IntKind.wrap_u8]
 have := (x ^^^ y).toNat_lt
 omega
theorem xor_at {a b : ByteArray} (h : a.size = b.size) {i : Nat} (hi : i < a.size) (hx : i < (xo a b).length) :
 IntKind.u8.wrap ((BitVec.ofInt IntKind.u8.bits (byteAt a i) ^^^ BitVec.ofInt IntKind.u8.bits (byteAt b i)).toNat : Int) = ((xo a b)[i].toNat : Int) := by
 have h1 : i < a.data.toList.length := hi
 have h2 : i < b.data.toList.length := by rw [h] at hi; exact hi
 rw [byteAt_eq hi, byteAt_eq (h ▸ hi), xor_u8]
 congr 1
 simp [xo]
def xorS (a b : ByteArray) : ByteArray := if a.size = b.size then str (xo a b) else str []
def xorE (a b : ByteArray) : Int := if a.size = b.size then 0 else 6
theorem xorS_eq {a b : ByteArray} (h : (a.size : Int) = b.size) : xorS a b = str (xo a b) := if_pos (by omega)
end Be
namespace Be
open Go Ev
theorem put_2 {n w : Int} (h : w < 1 ∨ 8 < w) : Ending.returned (oneOrMany [.string (str []), .int .i64 2]) = .returned (.tuple #[.string (putS n w), .int .i64 (putE n w)]) := by
 have e := putE_arg (n := n) h
 rw [putS_no (by omega), e]; rfl
theorem put_3 {n w : Int} (h : ¬ (w < 1 ∨ 8 < w)) (h' : n < 0 ∨ (w < 8 ∧ (256 ^ w.toNat : Int) ≤ n)) : Ending.returned (oneOrMany [.string (str []), .int .i64 3]) = .returned (.tuple #[.string (putS n w), .int .i64 (putE n w)]) := by
 have e := putE_range h h'
 rw [putS_no (by omega), e]; rfl
theorem put_0 {n w : Int} (h : ¬ (w < 1 ∨ 8 < w)) (h0 : ¬ n < 0) (h' : w < 8 → ¬ (256 ^ w.toNat : Int) ≤ n) : Ending.returned (oneOrMany [.string (str (bb w.toNat n.toNat)), .int .i64 0]) = .returned (.tuple #[.string (putS n w), .int .i64 (putE n w)]) := by
 have e := putE_ok h (fun hc => by rcases hc with hc | ⟨h1, h2⟩; exact h0 hc; exact h' h1 h2)
 rw [putS_ok e, e]; rfl
theorem put (n w : Int) : Fnc Tryz.prog 132 [.int .i64 n, .int .i64 w] [] (Ret (.tuple #[.string (putS n w), .int .i64 (putE n w)]) []) := by
 refine fn_intro Tryz.func132 (by kernel_rfl) ?_
 repeat' ((conv => whnf); first
  | (refine zv (fun z hz => ?_); rw [shr_eq (by omega) (by omega) (by omega)] at hz; subst hz) | refine mk_row rfl rfl rfl rfl rfl (by omega) (by omega) (by show ((1 : Nat) : Int) * _ ≤ _; omega) (fun g => ?_) | refine need (by first | rfl | omega) ?_ | (refine wr (fun z hz => ?_); (try rw [Int.tdiv_eq_ediv_of_nonneg (by omega)] at hz); rw [w64 (by omega) (by omega)] at hz; subst hz) | (refine ifs (fun h => ?_) (fun h => ?_) <;> try (exfalso; first | omega | with_reducible first | contradiction | exact h rfl)) | refine fin_nil ⟨?_, rfl⟩)
 any_goals refine loop_rule [32] (fun vs M m => ∃ i : Int, vs = [.int .i64 i] ∧ 0 ≤ i ∧ i ≤ w ∧ M = [⟨g, .row (List.replicate (w.toNat - i.toNat) (.int .u8 0) ++ u8s (bb i.toNat n.toNat)) 5⟩] ∧ m = (w - i).toNat) rfl ?_ ?_
 all_goals first | exact fin_all ⟨_, 0, rfl, by omega, by omega, by simp [bb, u8s], rfl⟩ | skip
 all_goals first | (rintro vs junk M' m ⟨i, rfl, h1, h2, rfl, rfl⟩) | skip
 repeat' ((conv => whnf); first
  | (refine zv (fun z hz => ?_); rw [shr_eq (by omega) (by omega) (by omega)] at hz; subst hz) | (refine wr (fun z hz => ?_); rw [byte_cell _ (by omega)] at hz; subst hz) | (refine nv (fun z hz => ?_); simp at hz; subst hz) | refine st_row rfl (by simp; omega) ?_ | refine b2s_row (l := bb w.toNat n.toNat) (junk := []) (by obtain rfl : i = w := (by omega); simp) rfl rfl rfl (by simp) ?_ | refine need (by first | rfl | omega) ?_ | (refine wr (fun z hz => ?_); (try rw [Int.tdiv_eq_ediv_of_nonneg (by omega)] at hz); rw [w64 (by omega) (by omega)] at hz; subst hz) | (refine ifs (fun h => ?_) (fun h => ?_) <;> try (exfalso; first | omega | with_reducible first | contradiction | exact h rfl)) | refine fin_nil ⟨?_, rfl⟩)
 all_goals first
  | exact put_2 (by omega)
  | exact put_3 (by omega) (.inl (by omega))
  | exact put_3 (by omega) (.inr ⟨by omega, (pos_div (by omega)).1 ‹_›⟩)
  | exact put_0 (by omega) (by omega) (fun _ => by have := mt (pos_div (k := w.toNat) (show 0 ≤ n by omega)).2 ‹_›; omega)
  | exact put_0 (by omega) (by omega) (fun _ => by omega)
  | skip
 all_goals
  (conv => whnf)
  refine ⟨rfl, fin_all ⟨(w - (i + 1)).toNat, by omega, i + 1, rfl, by omega, by omega, ?_, rfl⟩⟩
  have e1 : (i + 1).toNat = i.toNat + 1 := by omega
  have e2 := row_set (w := w.toNat) (i := i.toNat) (by omega) (.int .u8 0) n.toNat (UInt8.ofNat (n.toNat / 256 ^ i.toNat % 256))
  have e3 : (w - 1 - i).toNat = w.toNat - 1 - i.toNat := by omega
  rw [e1, e3, e2, bb]
theorem shl8 (a : Int) : a * 2 ^ min (Int.toNat 8) IntKind.i64.bits = a * 256 := rfl
theorem get_ret {s : ByteArray} {a b : Int} (h1 : a = getN s) (h2 : b = getE s) : Ending.returned (oneOrMany [.int .i64 a, .int .i64 b]) = .returned (.tuple #[.int .i64 (getN s), .int .i64 (getE s)]) := by rw [h1, h2]; rfl
theorem get_5 {s : ByteArray} (h : s = { data := #[] }) : Ending.returned (oneOrMany [.int .i64 0, .int .i64 5]) = .returned (.tuple #[.int .i64 (getN s), .int .i64 (getE s)]) := by subst h; rfl
theorem get_4 {s : ByteArray} (h : (8 : Int) < s.size) : Ending.returned (oneOrMany [.int .i64 0, .int .i64 4]) = .returned (.tuple #[.int .i64 (getN s), .int .i64 (getE s)]) := by
 have e : getE s = 4 := by unfold getE; rw [if_neg (by omega), if_pos (by omega)]
 exact get_ret (by unfold getN; rw [e]; rfl) e.symm
theorem get_3 {s : ByteArray} (h : (s.size : Int) = 8) (h' : 127 < byteAt s 0) : Ending.returned (oneOrMany [.int .i64 0, .int .i64 3]) = .returned (.tuple #[.int .i64 (getN s), .int .i64 (getE s)]) := by
 have e : getE s = 3 := by unfold getE; rw [if_neg (by omega), if_neg (by omega), if_pos ⟨by omega, h'⟩]
 exact get_ret (by unfold getN; rw [e]; rfl) e.symm
theorem get_0 {s : ByteArray} {i : Nat} (h : (s.size : Int) ≤ 8) (h' : (s.size : Int) = 8 → byteAt s 0 ≤ 127) (hi : s.size ≤ i) (hs : ¬ s = { data := #[] }) : Ending.returned (oneOrMany [.int .i64 (bval (s.data.toList.take i)), .int .i64 0]) = .returned (.tuple #[.int .i64 (getN s), .int .i64 (getE s)]) := by
 have h0 : s.size ≠ 0 := fun hc => hs (ByteArray.ext (Array.eq_empty_of_size_eq_zero hc))
 have e : getE s = 0 := by unfold getE; rw [if_neg h0, if_neg (by omega), if_neg (by omega)]
 exact get_ret (by unfold getN; rw [if_pos e, List.take_of_length_le (by rw [← size_eq]; exact hi)]) e.symm
theorem get (s : ByteArray) : Fnc Tryz.prog 188 [.string s] [] (Ret (.tuple #[.int .i64 (getN s), .int .i64 (getE s)]) []) := by
 refine fn_intro Tryz.func188 (by kernel_rfl) ?_
 repeat' ((conv => whnf); first
  | refine need ⟨by omega, by omega⟩ ?_ | (refine zv (fun z hz => ?_); (try rw [Int.tmod_eq_emod_of_nonneg (by omega)] at hz); subst hz) | (refine ifs (fun h => ?_) (fun h => ?_) <;> try (exfalso; first | omega | with_reducible first | contradiction | exact h rfl)) | refine fin_nil ⟨?_, rfl⟩)
 any_goals refine loop_rule [4, 24] (fun vs M m => ∃ i : Nat, vs = [.int .i64 (bval (s.data.toList.take i)), .int .i64 i] ∧ i ≤ s.size ∧ M = [] ∧ m = s.size - i) rfl ?_ ?_
 all_goals first | exact fin_all ⟨_, 0, (by simp [bval]), by omega, rfl, rfl⟩ | skip
 all_goals first | (rintro vs junk M' m ⟨i, rfl, h2, rfl, rfl⟩) | skip
 all_goals have h00 : byteAt s (Int.toNat 0) = byteAt s 0 := rfl
 repeat' ((conv => whnf); first
  | refine need ⟨by omega, by omega⟩ ?_ | (have hr := bval_room (s := s) (i := i) (by omega) (fun _ => by omega) (by omega); refine wr (fun z hz => ?_); rw [shl8, w64 (by omega) (by omega)] at hz; subst hz) | (have hb := byteAt_bd s (Int.toNat i); refine wr (fun z hz => ?_); rw [w64 (by omega) (by omega)] at hz; subst hz) | (refine wr (fun z hz => ?_); rw [or_step (by omega) hr] at hz; subst hz) | refine need (by first | rfl | omega) ?_ | (refine zv (fun z hz => ?_); (try rw [Int.tmod_eq_emod_of_nonneg (by omega)] at hz); subst hz) | (refine ifs (fun h => ?_) (fun h => ?_) <;> try (exfalso; first | omega | with_reducible first | contradiction | exact h rfl)) | refine fin_nil ⟨?_, rfl⟩)
 all_goals first
  | exact get_5 ‹_›
  | exact get_4 (by omega)
  | exact get_3 ‹_› (by omega)
  | exact get_0 (i := i) (by omega) (fun _ => by omega) (by omega) ‹_›
  | skip
 all_goals (conv => whnf)
 all_goals exact ⟨rfl, fin_all ⟨s.size - (i + 1), by omega, i + 1, rfl, by omega, rfl, rfl⟩⟩
theorem get01 (s : ByteArray) : Fnc Tryz.prog 187 [.string s] [] (Ret (.tuple #[.int .i64 (getN s), .int .i64 (getE s)]) []) := by
 have h00 : byteAt s (Int.toNat 0) = byteAt s 0 := rfl
 refine fn_intro Tryz.func187 (by kernel_rfl) ?_
 repeat' ((conv => whnf); first
  | refine need ⟨by omega, by omega⟩ ?_ | (refine zv (fun z hz => ?_); (try rw [Int.tmod_eq_emod_of_nonneg (by omega)] at hz); subst hz) | (refine ifs (fun h => ?_) (fun h => ?_) <;> try (exfalso; first | omega | with_reducible first | contradiction | exact h rfl)) | refine fin_nil ⟨?_, rfl⟩)
 any_goals refine loop_rule [4, 5] (fun vs M m => ∃ i : Nat, vs = [.int .i64 (bval (s.data.toList.take i)), .int .i64 i] ∧ i ≤ s.size ∧ M = [] ∧ m = s.size - i) rfl ?_ ?_
 all_goals first | exact fin_all ⟨_, 0, (by simp [bval]), by omega, rfl, rfl⟩ | skip
 all_goals first | (rintro vs junk M' m ⟨i, rfl, h2, rfl, rfl⟩) | skip
 repeat' ((conv => whnf); first
  | refine need ⟨by omega, by omega⟩ ?_ | (have hr := bval_room (s := s) (i := i) (by omega) (fun _ => by omega) (by omega); refine wr (fun z hz => ?_); rw [mul_step (by omega) hr] at hz; subst hz) | (have hr := bval_room (s := s) (i := i) (by omega) (fun _ => by omega) (by omega); have hb := byteAt_bd s (Int.toNat i); refine wr (fun z hz => ?_); rw [w64 (by omega) (by omega)] at hz; subst hz) | (refine zv (fun z hz => ?_); (try rw [Int.tmod_eq_emod_of_nonneg (by omega)] at hz); subst hz) | (refine ifs (fun h => ?_) (fun h => ?_) <;> try (exfalso; first | omega | with_reducible first | contradiction | exact h rfl)) | refine fin_nil ⟨?_, rfl⟩)
 all_goals first
  | exact get_5 (ByteArray.ext (Array.eq_empty_of_size_eq_zero (show s.size = 0 by omega)))
  | exact get_4 (by omega)
  | exact get_3 ‹_› (by omega)
  | exact get_0 (i := i) (by omega) (fun _ => by omega) (by omega) (fun hc => by subst hc; first | contradiction | (apply ‹¬ _›; rfl))
  | skip
 all_goals (conv => whnf)
 all_goals exact ⟨rfl, fin_all ⟨s.size - (i + 1), by omega, i + 1, rfl, by omega, rfl, rfl⟩⟩
end Be
namespace Be
open Go Ev
theorem xor_no {a b : ByteArray} (h : a.size ≠ b.size) : Ending.returned (oneOrMany [.string { data := #[] }, .int .i64 6]) = .returned (.tuple #[.string (xorS a b), .int .i64 (xorE a b)]) := by
 have e1 : xorS a b = str [] := if_neg h
 have e2 : xorE a b = 6 := if_neg h
 rw [e1, e2]; rfl
theorem xor_ok {a b : ByteArray} {i : Nat} (h : a.size = b.size) (hi : a.size ≤ i) : Ending.returned (oneOrMany [.string (str (List.take i (xo a b))), .int .i64 0]) = .returned (.tuple #[.string (xorS a b), .int .i64 (xorE a b)]) := by
 have e1 : xorS a b = str (xo a b) := if_pos h
 have e2 : xorE a b = 0 := if_pos h
 rw [e1, e2, List.take_of_length_le (by rw [xo_length h]; exact hi)]; rfl
theorem xor (a b : ByteArray) (ha : a.size ≤ 140737488351232) : Fnc Tryz.prog 190 [.string a, .string b] [] (Ret (.tuple #[.string (xorS a b), .int .i64 (xorE a b)]) []) := by
 refine fn_intro Tryz.func190 (by kernel_rfl) ?_
 repeat' ((conv => whnf); first
  | refine mk_row rfl rfl rfl rfl rfl (by omega) (by omega) (by show ((1 : Nat) : Int) * _ ≤ _; omega) (fun g => ?_) | (refine ifs (fun h => ?_) (fun h => ?_) <;> try (exfalso; first | omega | with_reducible first | contradiction | exact h rfl)) | refine fin_nil ⟨?_, rfl⟩)
 any_goals refine loop_rule [18] (fun vs M m => ∃ i : Nat, vs = [.int .i64 i] ∧ i ≤ a.size ∧ M = [⟨g, .row (u8s ((xo a b).take i) ++ List.replicate (a.size - i) (.int .u8 0)) 5⟩] ∧ m = a.size - i) rfl ?_ ?_
 all_goals first | exact fin_all ⟨_, 0, rfl, by omega, by simp [u8s], rfl⟩ | skip
 all_goals first | (rintro vs junk M' m ⟨i, rfl, h1, rfl, rfl⟩) | skip
 repeat' ((conv => whnf); first
  | refine draw_tail 10 rfl (by kernel_rfl) ?_ | refine need ⟨by omega, by omega⟩ ?_ | (have hl := xo_length (a := a) (b := b) (by omega); have hx := xor_at (a := a) (b := b) (i := i) (by omega) (by omega) (by omega); refine wr (fun z hz => ?_); rw [Int.toNat_natCast, hx] at hz; subst hz) | (refine nv (fun z hz => ?_); simp at hz; replace hz := hz.symm; subst hz) | refine st_row rfl (by simp [xo_length (a := a) (b := b) (by omega)]; omega) ?_ | refine b2s_row (l := (xo a b).take i) (junk := List.replicate (a.size - i) (.int .u8 0)) rfl rfl rfl rfl (by simp [xo_length (a := a) (b := b) (by omega)]; omega) ?_ | refine need (by first | rfl | omega) ?_ | (refine wr (fun z hz => ?_); (try rw [Int.tdiv_eq_ediv_of_nonneg (by omega)] at hz); rw [w64 (by omega) (by omega)] at hz; subst hz) | (refine zv (fun z hz => ?_); (try rw [Int.tmod_eq_emod_of_nonneg (by omega)] at hz); subst hz) | (refine ifs (fun h => ?_) (fun h => ?_) <;> try (exfalso; first | omega | with_reducible first | contradiction | exact h rfl)) | refine fin_nil ⟨?_, rfl⟩)
 all_goals first
  | exact xor_no (by omega)
  | exact xor_ok (by omega) (by omega)
  | skip
 all_goals (conv => whnf)
 refine ⟨rfl, fin_all ⟨a.size - (i + 1), by omega, i + 1, rfl, by omega, ?_, rfl⟩⟩
 have hl := xo_length (a := a) (b := b) (by omega)
 rw [row_next (l := xo a b) (i := i) (by omega) hl.symm rfl]
end Be
namespace Be
open Go Ev
abbrev rd (r : Nat) (s : ByteArray) (a : Int) : Blk := ⟨r, .cells [.string s, .int .i64 a] 325⟩
abbrev pt (r : Nat) : Value := .pointer (some ⟨r, 0, none⟩)
theorem read (s : ByteArray) : Fnc Tryz.prog 230 [.string s] [] (fun e A => ∃ r, e = .returned (pt r) ∧ A = [rd r s 0]) := by
 refine fn_intro Tryz.func230 (by kernel_rfl) ?_
 repeat' ((conv => whnf); first
  | exact fin_all ⟨_, rfl, rfl⟩ | refine nw (fun n => ?_) | refine bld ?_)
theorem left (r : Nat) (s : ByteArray) (a : Int) (h0 : 0 ≤ a) (h1 : a ≤ s.size) (h2 : s.size ≤ 140737488355328) : Fnc Tryz.prog 262 [pt r] [rd r s a] (Ret (.int .i64 (s.size - a)) [rd r s a]) := by
 refine fn_intro Tryz.func262 (by kernel_rfl) ?_
 repeat' ((conv => whnf); first
  | refine draw_quiet rfl (by kernel_rfl) ?_ | refine qld1_lit ?_ | exact fin_all ⟨rfl, rfl⟩ | (refine wr (fun z hz => ?_); (try rw [Int.tdiv_eq_ediv_of_nonneg (by omega)] at hz); rw [w64 (by omega) (by omega)] at hz; subst hz))
def byE (s : ByteArray) (a n : Int) : Int := if n < 0 then 2 else if s.size - a < n then 5 else 0
def byS (s : ByteArray) (a n : Int) : ByteArray := if n < 0 ∨ s.size - a < n then str [] else s.extract a.toNat (a + n).toNat
def byA (s : ByteArray) (a n : Int) : Int := if n < 0 ∨ s.size - a < n then a else a + n
theorem by_2 {s : ByteArray} {a n : Int} {r : Nat} (h : n < 0) : Ret (.tuple #[.string (byS s a n), .int .i64 (byE s a n)]) [rd r s (byA s a n)] (.returned (oneOrMany [.string { data := #[] }, .int .i64 2])) [rd r s a] := by
 have e1 : byS s a n = str [] := if_pos (.inl h)
 have e2 : byE s a n = 2 := if_pos h
 have e3 : byA s a n = a := if_pos (.inl h)
 rw [e1, e2, e3]; exact ⟨rfl, rfl⟩
theorem by_5 {s : ByteArray} {a n : Int} {r : Nat} (h : ¬ n < 0) (h' : s.size - a < n) : Ret (.tuple #[.string (byS s a n), .int .i64 (byE s a n)]) [rd r s (byA s a n)] (.returned (oneOrMany [.string { data := #[] }, .int .i64 5])) [rd r s a] := by
 have e1 : byS s a n = str [] := if_pos (.inr h')
 have e2 : byE s a n = 5 := by unfold byE; rw [if_neg h, if_pos h']
 have e3 : byA s a n = a := if_pos (.inr h')
 rw [e1, e2, e3]; exact ⟨rfl, rfl⟩
theorem by_0 {s : ByteArray} {a n : Int} {r : Nat} (h : ¬ n < 0) (h' : ¬ s.size - a < n) : Ret (.tuple #[.string (byS s a n), .int .i64 (byE s a n)]) [rd r s (byA s a n)] (.returned (oneOrMany [.string (s.extract a.toNat (a + n).toNat), .int .i64 0])) [rd r s (a + n)] := by
 have e1 : byS s a n = s.extract a.toNat (a + n).toNat := if_neg (by omega)
 have e2 : byE s a n = 0 := by unfold byE; rw [if_neg h, if_neg h']
 have e3 : byA s a n = a + n := if_neg (by omega)
 rw [e1, e2, e3]; exact ⟨rfl, rfl⟩
theorem bytes (r : Nat) (s : ByteArray) (a n : Int) (h0 : 0 ≤ a) (h1 : a ≤ s.size) (h2 : s.size ≤ 140737488355328) :
 Fnc Tryz.prog 232 [pt r, .int .i64 n] [rd r s a] (Ret (.tuple #[.string (byS s a n), .int .i64 (byE s a n)]) [rd r s (byA s a n)]) := by
 refine fn_intro Tryz.func232 (by kernel_rfl) ?_
 repeat' ((conv => whnf); first
  | refine call_ret (left r s a h0 h1 h2) (.cons .here .nil) ?_ | refine draw_quiet rfl (by kernel_rfl) ?_ | refine qld1_lit ?_ | (refine sv (fun z hz => ?_); subst hz) | exact fin_all (by_2 (by omega))
  | exact fin_all (by_5 (by omega) (by omega))
  | exact fin_all (by_0 (by omega) (by omega))
  | refine ld1_lit ?_ | refine st_lit rfl ?_ | refine need (by first | rfl | omega) ?_ | (refine wr (fun z hz => ?_); (try rw [Int.tdiv_eq_ediv_of_nonneg (by omega)] at hz); rw [w64 (by omega) (by omega)] at hz; subst hz) | (refine ifs (fun h => ?_) (fun h => ?_) <;> try (exfalso; first | omega | with_reducible first | contradiction | exact h rfl)))
def nuE (s : ByteArray) (a n : Int) : Int := if n < 1 ∨ 8 < n then 2 else if byE s a n = 0 then getE (byS s a n) else byE s a n
def nuN (s : ByteArray) (a n : Int) : Int := if n < 1 ∨ 8 < n then 0 else if byE s a n = 0 then getN (byS s a n) else 0
def nuA (s : ByteArray) (a n : Int) : Int := if n < 1 ∨ 8 < n then a else if byE s a n = 0 ∧ getE (byS s a n) ≠ 0 then a else byA s a n
theorem nu_ret {s : ByteArray} {a n a' k e : Int} {r : Nat} (h1 : k = nuN s a n) (h2 : e = nuE s a n) (h3 : a' = nuA s a n) : Ev.Fin [rd r s a']
 (Ret (.tuple #[.int .i64 (nuN s a n), .int .i64 (nuE s a n)]) [rd r s (nuA s a n)] (.returned (oneOrMany [.int .i64 k, .int .i64 e]))) := by
 rw [h1, h2, h3]; exact fin_all ⟨rfl, rfl⟩
theorem getN_no {s : ByteArray} (h : ¬ getE s = 0) : getN s = 0 := if_neg h
theorem num (r : Nat) (s : ByteArray) (a n : Int) (h0 : 0 ≤ a) (h1 : a ≤ s.size) (h2 : s.size ≤ 140737488355328) :
 Fnc Tryz.prog 231 [pt r, .int .i64 n] [rd r s a] (Ret (.tuple #[.int .i64 (nuN s a n), .int .i64 (nuE s a n)]) [rd r s (nuA s a n)]) := by
 refine fn_intro Tryz.func231 (by kernel_rfl) ?_
 repeat' ((conv => whnf); first
  | refine call_ret (bytes r s a n h0 h1 h2) (.cons .here .nil) ?_ | refine call_val (get _) ?_ | refine ld1_lit ?_ | refine st_lit rfl ?_ | refine need (by first | rfl | omega) ?_ | (refine ifs (fun h => ?_) (fun h => ?_) <;> try (exfalso; first | omega | with_reducible first | contradiction | exact h rfl)))
 all_goals (conv => whnf)
 · exact nu_ret (if_pos (by omega)).symm (if_pos (by omega)).symm (if_pos (by omega)).symm
 · exact nu_ret (if_pos (by omega)).symm (if_pos (by omega)).symm (if_pos (by omega)).symm
 · refine nu_ret ?_ ?_ ?_
   · rw [nuN, if_neg (by omega), if_pos ‹_›]
   · rw [nuE, if_neg (by omega), if_pos ‹_›, ‹getE _ = 0›]
   · rw [nuA, if_neg (by omega), if_neg (fun hc => hc.2 ‹_›)]
 · refine nu_ret ?_ ?_ ?_
   · rw [nuN, if_neg (by omega), if_pos ‹_›, getN_no ‹_›]
   · rw [nuE, if_neg (by omega), if_pos ‹_›]
   · rw [nuA, if_neg (by omega), if_pos ⟨‹_›, ‹_›⟩]
 · refine nu_ret ?_ ?_ ?_
   · rw [nuN, if_neg (by omega), if_neg ‹_›]
   · rw [nuE, if_neg (by omega), if_neg ‹_›]
   · rw [nuA, if_neg (by omega), if_neg (fun hc => absurd hc.1 ‹_›)]
def full (s : ByteArray) (n : Int) : ByteArray := if n ≤ s.size then s else s ++ str (List.replicate (n - s.size).toNat 0)
theorem zeros (n : Int) (h0 : 0 ≤ n) (h1 : n ≤ 140737488355328) : Fnc Tryz.prog 39 [.int .i64 n] [] (Ret (.string (str (List.replicate n.toNat 0))) []) := by
 refine fn_intro Tryz.func39 (by kernel_rfl) ?_
 repeat' ((conv => whnf); first
  | refine mk_row rfl rfl rfl rfl rfl (by omega) (by omega) (by show ((1 : Nat) : Int) * _ ≤ _; omega) (fun g => ?_) | refine b2s_row (l := List.replicate n.toNat 0) (junk := []) (by simp [u8s]) rfl rfl rfl (by simp) ?_ | exact fin_nil ⟨rfl, rfl⟩)
theorem full_eq {s : ByteArray} {n : Int} (h : n ≤ s.size) : Ending.returned (oneOrMany [.string s]) = .returned (.string (full s n)) := by
 have : full s n = s := if_pos h
 rw [this]; rfl
theorem full_ne {s : ByteArray} {n : Int} (h : ¬ n ≤ s.size) : Ending.returned (oneOrMany [.string (s ++ str (List.replicate (n - s.size).toNat 0))]) = .returned (.string (full s n)) := by
 have : full s n = s ++ str (List.replicate (n - s.size).toNat 0) := if_neg h
 rw [this]; rfl
theorem full01 (s : ByteArray) (n : Int) (h1 : n ≤ 140737488355328) (h2 : s.size ≤ 140737488355328) : Fnc Tryz.prog 19 [.string s, .int .i64 n] [] (Ret (.string (full s n)) []) := by
 refine fn_intro Tryz.func19 (by kernel_rfl) ?_
 repeat' ((conv => whnf); first
  | refine call_val (zeros _ (by omega) (by omega)) ?_ | refine need (by rw [show IntKind.i64.max = 9223372036854775807 from rfl]; simp; omega) ?_ | (refine sv (fun z hz => ?_); subst hz) | (refine wr (fun z hz => ?_); (try rw [Int.tdiv_eq_ediv_of_nonneg (by omega)] at hz); rw [w64 (by omega) (by omega)] at hz; subst hz) | (refine ifs (fun h => ?_) (fun h => ?_) <;> try (exfalso; first | omega | with_reducible first | contradiction | exact h rfl)) | refine fin_nil ⟨?_, rfl⟩)
 all_goals first
  | exact full_eq (by omega)
  | exact full_ne (by omega)
def padE (s : ByteArray) (n : Int) : Int := if n < 0 ∨ 4096 < n then 2 else if n < s.size then 4 else 0
def padS (s : ByteArray) (n : Int) : ByteArray := if padE s n = 0 then full s n else str []
theorem pad_no {s : ByteArray} {n e : Int} (h : padE s n = e) (h0 : e ≠ 0) : Ending.returned (oneOrMany [.string { data := #[] }, .int .i64 e]) = .returned (.tuple #[.string (padS s n), .int .i64 (padE s n)]) := by
 have : padS s n = str [] := if_neg (by omega)
 rw [this, h]; rfl
theorem pad_ok {s : ByteArray} {n : Int} (h : 0 ≤ n) (h1 : n ≤ 4096) (h2 : s.size ≤ n) : Ending.returned (oneOrMany [.string (s ++ str (List.replicate (n - s.size).toNat 0)), .int .i64 0]) = .returned (.tuple #[.string (padS s n), .int .i64 (padE s n)]) := by
 have e : padE s n = 0 := by unfold padE; rw [if_neg (by omega), if_neg (by omega)]
 have : padS s n = full s n := if_pos e
 rw [this, e]
 unfold full
 split
 · have : (n - s.size).toNat = 0 := by omega
   rw [this]
   have : s ++ str (List.replicate 0 0) = s := ByteArray.append_empty
   rw [this]; rfl
 · rfl
theorem pad (s : ByteArray) (n : Int) (h2 : s.size ≤ 140737488355328) : Fnc Tryz.prog 68 [.string s, .int .i64 n] [] (Ret (.tuple #[.string (padS s n), .int .i64 (padE s n)]) []) := by
 refine fn_intro Tryz.func68 (by kernel_rfl) ?_
 repeat' ((conv => whnf); first
  | refine mk_row rfl rfl rfl rfl rfl (by omega) (by omega) (by show ((1 : Nat) : Int) * _ ≤ _; omega) (fun g => ?_) | refine b2s_row (l := List.replicate (n - s.size).toNat 0) (junk := []) (by simp [u8s]) rfl rfl rfl (by simp) ?_ | refine need (by rw [show IntKind.i64.max = 9223372036854775807 from rfl]; simp; omega) ?_ | (refine sv (fun z hz => ?_); subst hz) | (refine wr (fun z hz => ?_); (try rw [Int.tdiv_eq_ediv_of_nonneg (by omega)] at hz); rw [w64 (by omega) (by omega)] at hz; subst hz) | (refine ifs (fun h => ?_) (fun h => ?_) <;> try (exfalso; first | omega | with_reducible first | contradiction | exact h rfl)) | refine fin_nil ⟨?_, rfl⟩)
 all_goals first
  | exact pad_no (if_pos (by omega)) (by omega)
  | exact pad_no (by unfold padE; rw [if_neg (by omega), if_pos (by omega)]) (by omega)
  | exact pad_ok (by omega) (by omega) (by omega)
end Be
namespace Rec
open Go Ev Sha Aes Orc Node
def rcC (seq : Int) (root : Dg) : List Value := .int .i64 seq :: (dgV root ++ [.slice none 0 0])
theorem rcC_len (seq : Int) (root : Dg) : (rcC seq root).length = 34 := by unfold rcC; simp [dgV_len]
theorem rcC_0 {seq : Int} {root : Dg} : (rcC seq root)[0 + 0]? = some (.int .i64 seq) := rfl
theorem rcC_p {seq : Int} {root : Dg} : (rcC seq root)[0 + 33]? = some (.slice none 0 0) := by
 show (.int .i64 seq :: (dgV root ++ [.slice none 0 0]))[32 + 1]? = _
 rw [List.getElem?_cons_succ, List.getElem?_append_right (by rw [dgV_len]; omega), dgV_len]; rfl
def recS (seq : Int) (root : Dg) : ByteArray := ⟨#[114, 99]⟩ ++ Be.putS seq 4 ++ Be.putS 0 2 ++ str (dl root)
def recB (seq : Int) (root : Dg) : ByteArray := Be.padS (recS seq root) 64
theorem recB_eq (seq : Int) (root : Dg) : recB seq root = Be.padS (⟨#[114, 99]⟩ ++ Be.putS seq 4 ++ Be.putS 0 2 ++ str (dl root)) 64 := rfl
def seqOk (seq : Int) : Prop := 0 ≤ seq ∧ seq ≤ 4294967295
theorem putE4 {seq : Int} (h : seqOk seq) : Be.putE seq 4 = 0 := by
 unfold seqOk at h
 refine Be.putE_ok (by omega) ?_
 rintro (h1 | ⟨_, h2⟩)
 · omega
 · rw [show ((256 : Int) ^ Int.toNat 4) = 4294967296 from rfl] at h2; omega
theorem recS_size {seq : Int} (h : seqOk seq) (root : Dg) : (recS seq root).size = 40 := by
 unfold recS
 rw [Be.putS_ok (putE4 h), Be.putS_ok (show Be.putE 0 2 = 0 by decide)]
 simp only [ByteArray.size_append, Ev.str_size, Be.bb_length, dl_len]
 rfl
theorem recB_size {seq : Int} (h : seqOk seq) (root : Dg) : (recB seq root).size = 64 := by
 have hs := recS_size h root
 unfold recB
 generalize recS seq root = s at hs
 have : Be.padS s 64 = s ++ str (List.replicate (64 - (s.size : Int)).toNat 0) := by
  have h0 : Be.padE s 64 = 0 := by unfold Be.padE; rw [if_neg (by omega), if_neg (by omega)]
  unfold Be.padS
  rw [if_pos h0]
  unfold Be.full
  rw [if_neg (by omega)]
 rw [this, ByteArray.size_append, Ev.str_size, List.length_replicate]
 omega
theorem b2s_rat {P : Program} {M : List Blk} {k : Kv} {pan : Kp} {src dst e t : TypeId} {n off len cap : Nat} {cs : List Value} (l : List UInt8) [hk : Look M n (.row cs t)] (hl : (cs.drop off).take l.length = u8s l) (hs : P.underlying src = some (.slice e)) (he : P.underlying e = some (.int .u8)) (hd : P.underlying dst = some .string) (hlen : len = l.length)
 (h : k (.string (str l)) M) : Runs P (VS (convert src dst (.slice (some ⟨n, off, none⟩) len cap))) M k pan := by
 refine b2s hs he hd hlen (fun A w0 w st j hj => ?_) h
 exact row_at (l := u8s l) (st.has _ hk.mem) (by rw [u8s_length]; exact hl) j _ (u8s_get hj)
theorem rcC_r (seq : Int) (root : Dg) : ((rcC seq root).drop 1).take (dl root).length = u8s (dl root) := by
 show (dgV root ++ [Value.slice none 0 0]).take (dl root).length = _
 rw [dl_len, List.take_left' (dgV_len root), dgV_u8]
attribute [local irreducible] dgV D rcC convert Builtin.copy_ Builtin.append_ Be.putS Be.padS Be.putE Be.padE recS
theorem rcheck (seq : Int) (root : Dg) (h : seqOk seq) : Fnc Tryz.prog 216 [.agg (rcC seq root).toArray] [] (Ret (.int .i64 0) []) := by
 unfold seqOk at h
 refine fn_intro Tryz.func216 (by kernel_rfl) ?_
 repeat' ((conv => whnf); first
  | refine force_of ?_ | refine nw_row (cs' := rcC seq root) rfl (fun n => ?_) | refine ld1_row rcC_p ?_ | refine ld1_row rcC_0 ?_ | refine loop_n 1 ?_ | (refine ifs (fun h => ?_) (fun h => ?_) <;> try (exfalso; first | omega | with_reducible first | contradiction | exact h rfl)))
 all_goals (conv => whnf)
 all_goals exact fin_nil ⟨rfl, rfl⟩
theorem rblock (bk : Nat) (T : TypeId) (a b c d : ByteArray) (hs : a.size + b.size + c.size + d.size ≤ 64) :
 Fnc Tryz.prog 217 [.slice (some ⟨bk, 0, none⟩) 4 4] [⟨bk, .cells [.string a, .string b, .string c, .string d] T⟩] (Ret (.string (Be.padS (a ++ b ++ c ++ d) 64)) [⟨bk, .cells [.string a, .string b, .string c, .string d] T⟩]) := by
 have hj := Join.join4 bk T a b c d (by omega)
 have hp := Be.pad (a ++ b ++ c ++ d) 64 (by simp only [ByteArray.size_append]; omega)
 refine fn_intro Tryz.func217 (by kernel_rfl) ?_
 repeat' ((conv => whnf); first
  | refine call_gr hj (.blk takeC .nil) ?_ | refine call_val hp ?_)
 all_goals (conv => whnf)
 all_goals exact fin_all ⟨rfl, rfl⟩
theorem rlay (seq : Int) (root : Dg) (h : seqOk seq) : Fnc Tryz.prog 178 [.agg (rcC seq root).toArray] [] (fun e A => ∃ n, e = .returned (.tuple #[.slice (some ⟨n, 0, none⟩) 1 1, .int .i64 0]) ∧ A = [⟨n, .cells [.string (recB seq root)] 9⟩]) := by
 have hc := rcheck seq root h
 have h4 := Be.put seq 4
 have h2 := Be.put 0 2
 have e4 := putE4 h
 have hz := recS_size h root
 have hb : ∀ bk T, Fnc Tryz.prog 217 [.slice (some ⟨bk, 0, none⟩) 4 4] [⟨bk, .cells [.string ⟨#[114, 99]⟩, .string (Be.putS seq 4), .string (Be.putS 0 2), .string (str (dl root))] T⟩] (Ret (.string (recB seq root)) [⟨bk, .cells [.string ⟨#[114, 99]⟩, .string (Be.putS seq 4), .string (Be.putS 0 2), .string (str (dl root))] T⟩]) := fun bk T => by
  rw [recB_eq]
  exact rblock bk T ⟨#[114, 99]⟩ (Be.putS seq 4) (Be.putS 0 2) (str (dl root)) (by unfold recS at hz; simp only [ByteArray.size_append] at hz; omega)
 rw [e4] at h4
 refine fn_intro Tryz.func178 (by kernel_rfl) ?_
 repeat' ((conv => whnf); first
  | refine force_of ?_ | refine nw_row (cs' := rcC seq root) rfl (fun n => ?_) | refine ldN_whole (rcC_len _ _) ?_ | refine call_val hc ?_ | refine call_val h4 ?_ | refine call_val h2 ?_ | refine ld1_row rcC_p ?_ | refine ld1_row rcC_0 ?_ | refine nv_eq (a := 1) rfl ?_ | refine nv_eq (a := 32) rfl ?_ | refine b2s_rat (dl root) (rcC_r seq root) rfl rfl rfl (by rw [dl_len]) ?_ | refine call_gr (hb _ _) (.blk takeC .nil) ?_ | refine loop_n 1 ?_ | refine nw (fun n => ?_) | refine bld ?_ | refine need (by first | rfl | omega) ?_ | (refine ifs (fun h => ?_) (fun h => ?_) <;> try (exfalso; first | omega | with_reducible first | contradiction | exact h rfl)))
 all_goals (conv => whnf)
 all_goals exact fin_pick (A' := [⟨n, _⟩]) (.cons takeC .nil) ⟨n, rfl, rfl⟩
end Rec
namespace Chn
open Go Ev Sha Aes Orc Node
def startS (super : ByteArray) (d area : Nat) : ByteArray := ⟨#[115, 116, 97, 114, 116]⟩ ++ str [UInt8.ofNat d, UInt8.ofNat area] ++ super
theorem startS_size (super : ByteArray) (d area : Nat) : (startS super d area).size = super.size + 7 := by
 unfold startS; rw [ByteArray.size_append, ByteArray.size_append, Ev.str_size]; show 5 + 2 + super.size = _; omega
attribute [local irreducible] dgV D convert Builtin.copy_ Builtin.append_
theorem csum (o : Orc) (s : ByteArray) (hs : s.size ≤ 1152921504606846976) (hb : o.ts.length ≤ 1099511627776) :
 Fnc Tryz.prog 247 [pt o.on, .string s] (orcM o) (RetO o (addT o.ts s) orcM (.agg (dgV (D s)).toArray)) := by
 refine fn_intro Tryz.func247 (by kernel_rfl) ?_
 repeat' ((conv => whnf); first
  | refine nw_z (fun n => ?_) | (refine call_go (osum o s hs hb) (.one takeG) (fun o' h1 h2 => ?_)) | refine force_of ?_ | refine need (dgV_len _) ?_ | refine st_dg ?_ | refine ldN_dg rfl ?_)
 all_goals (conv => whnf)
 all_goals exact fin_g (A := orcM o') (.one takeG) ⟨o', h1, h2, rfl, rfl⟩
theorem two (n : Int) (h : n = 0 ∨ n = 1) : Fnc Tryz.prog 263 [.int .i64 n] [] (Ret (.bool true) []) := by
 rcases h with rfl | rfl
 all_goals
  refine fn_intro Tryz.func263 (by kernel_rfl) ?_
  repeat' ((conv => whnf); first
   | (refine ifs (fun h => ?_) (fun h => ?_) <;> try (exfalso; first | omega | with_reducible first | contradiction | exact h rfl)))
  all_goals (conv => whnf)
  all_goals exact fin_nil ⟨rfl, rfl⟩
theorem start_ (o : Orc) (super : ByteArray) (d area : Nat) (hd : d ≤ 1) (ha : area ≤ 1) (hs : super.size = 64) (hb : o.ts.length ≤ 1099511627776) :
 Fnc Tryz.prog 235 [pt o.on, .string super, .int .i64 d, .int .i64 area] (orcM o) (RetO o (addT o.ts (startS super d area)) orcM (.tuple #[.agg (dgV (D (startS super d area))).toArray, .int .i64 0])) := by
 have h2 : ∀ n : Nat, n ≤ 1 → IntKind.u8.wrap (n : Int) = ((UInt8.ofNat n).toNat : Int) := fun n hn => by
  rw [IntKind.wrap_u8, UInt8.toNat_ofNat']; omega
 have hsum := csum o (startS super d area) (by rw [startS_size]; omega) hb
 refine fn_intro Tryz.func235 (by kernel_rfl) ?_
 repeat' ((conv => whnf); first
  | refine nw_z (fun n => ?_) | refine call_val (two _ (by omega)) ?_ | (refine wr8 (fun z hz => ?_); rw [h2 _ (by assumption)] at hz; subst hz) | refine b2s_lit (l := [UInt8.ofNat d, UInt8.ofNat area]) (junk := []) rfl rfl rfl rfl rfl ?_ | refine need (by rw [show IntKind.i64.max = 9223372036854775807 from rfl, Ev.str_size]; show ((5 + 2 : Nat) : Int) ≤ _; omega) ?_ | refine need (by rw [show IntKind.i64.max = 9223372036854775807 from rfl, ByteArray.size_append, Ev.str_size, hs]; show ((5 + 2 + 64 : Nat) : Int) ≤ _; omega) ?_ | refine sv_id ?_ | (refine call_go hsum (.one takeG) (fun o' h1 h2 => ?_)) | refine force_of ?_ | refine need (dgV_len _) ?_ | refine st_dg ?_ | refine ldN_dg rfl ?_ | refine nw (fun n => ?_) | refine bld ?_ | (refine ifs (fun h => ?_) (fun h => ?_) <;> try (exfalso; first | omega | with_reducible first | contradiction | exact h rfl)))
 all_goals (conv => whnf)
 all_goals exact fin_g (A := orcM o') (.one takeG) ⟨o', h1, h2, rfl, rfl⟩
theorem set_ro {A M M' : List Blk} {w0 w w' : World} {n : Nat} {o o' : BO} (h : St A w0 w M) (hu : Upd M n o o' M') (hro : (⟨n, o⟩ : Blk).ro = false)
 (hos : w'.os = w.os) (htape : w'.tape = w.tape) (hout : w'.output = w.output) (hsize : w.heap.size ≤ w'.heap.size)
 (hk : ∀ k, k ≠ n → k < w.heap.size → w'.heap[k]? = w.heap[k]?) (hh : (⟨n, o'⟩ : Blk).holds w') (hro' : (⟨n, o'⟩ : Blk).ro = true) : St A w0 w' M' := by
 obtain ⟨L, R, h1, h2⟩ := hu.split
 subst h1; subst h2
 have hp := h.apart
 rw [List.pairwise_append, List.pairwise_cons] at hp
 obtain ⟨p1, ⟨p2, p3⟩, p4⟩ := hp
 have hmem : (⟨n, o⟩ : Blk) ∈ L ++ ⟨n, o⟩ :: R := by simp
 have ne : ∀ b, b ∈ L ∨ b ∈ R → b.n ≠ n := fun b hb e => by
  rcases hb with hb | hb
  · have := (p4 b hb ⟨n, o⟩ List.mem_cons_self e).2
    rw [hro] at this; cases this
  · have := (p2 b hb e.symm).1
    rw [hro] at this; cases this
 refine ⟨hos.trans h.os, htape.trans h.tape, hout.trans h.output, Nat.le_trans h.size hsize, fun k hk0 hA => ?_, fun b hb => ?_, fun b hb => ?_, ?_⟩
 · have hsz := h.size
   by_cases e : k = n
   · subst e
     rcases h.own _ hmem with ⟨a, ha, e1, e2⟩ | h3
     · by_cases hra : a.ro = true
       · have := e2 hra
         rw [hro] at this; cases this
       · exact absurd e1 (hA a ha (by simpa using hra))
     · simp only at h3; omega
   · exact (hk k e (by omega)).trans (h.keep k hk0 hA)
 · rcases List.mem_append.1 hb with hb | hb
   · have hm : b ∈ L ++ ⟨n, o⟩ :: R := List.mem_append.2 (.inl hb)
     exact (h.has b hm).same (hk _ (ne b (.inl hb)) (h.has b hm).lt)
   · rcases List.mem_cons.1 hb with rfl | hb
     · exact hh
     · have hm : b ∈ L ++ ⟨n, o⟩ :: R := List.mem_append.2 (.inr (List.mem_cons_of_mem _ hb))
       exact (h.has b hm).same (hk _ (ne b (.inr hb)) (h.has b hm).lt)
 · rcases List.mem_append.1 hb with hb | hb
   · exact h.own b (List.mem_append.2 (.inl hb))
   · rcases List.mem_cons.1 hb with rfl | hb
     · rcases h.own _ hmem with ⟨a, ha, e1, e2⟩ | h3
       · exact .inl ⟨a, ha, e1, fun _ => hro'⟩
       · exact .inr h3
     · exact h.own b (List.mem_append.2 (.inr (List.mem_cons_of_mem _ hb)))
 · rw [List.pairwise_append, List.pairwise_cons]
   refine ⟨p1, ⟨fun b hb e => absurd e.symm (ne b (.inr hb)), p3⟩, fun a ha b hb => ?_⟩
   rcases List.mem_cons.1 hb with rfl | hb
   · exact fun e => absurd e (ne a (.inl ha))
   · exact p4 a ha b (List.mem_cons_of_mem _ hb)
instance (priority := 1800) ZipO_cons' {b : Blk} {A C : List Blk} {S : Own} {e : TypeId} {xs : List Value} {f : List Blk → List Blk} [h : ZipO (b :: (A ++ C)) S e xs f] : ZipO ((b :: A) ++ C) S e xs f := ⟨h.out⟩
instance (priority := 1800) ZipO_assoc {A B C : List Blk} {S : Own} {e : TypeId} {xs : List Value} {f : List Blk → List Blk} [h : ZipO (A ++ (B ++ C)) S e xs f] : ZipO ((A ++ B) ++ C) S e xs f := ⟨by rw [List.append_assoc]; exact h.out⟩
section
variable {P : Program} {M : List Blk} {k : Kv} {pan : Kp}
theorem conv_mark {t e et : TypeId} {n len cap : Nat} {cs : List Value} {f : Blk → List Blk} [z : Zip M n (.row cs et) f] (ht : P.underlying t = some (.slice e)) (he : P.underlying e = some (.int .u8))
 (hk : k (.slice (some ⟨n, 0, none⟩) len cap) (f ⟨n, .ro 0 cs⟩)) : Runs P (VS (convert t t (.slice (some ⟨n, 0, none⟩) len cap))) M k pan := by
 refine ⟨fun A w0 w st => ?_⟩
 have hu : Upd M n (.row cs et) (.ro 0 cs) (f ⟨n, .ro 0 cs⟩) := z.upd _
 have hh := st.has ⟨n, .row cs et⟩ (by obtain ⟨L, R, h1, h2⟩ := hu.split; rw [h1]; simp)
 simp only [Blk.holds] at hh
 have hlt : n < w.heap.size := (Array.getElem?_eq_some_iff.1 hh).1
 have hrun : (VS (convert t t (.slice (some ⟨n, 0, none⟩) len cap))).run P w = .ok (.value (.slice (some ⟨n, 0, none⟩) len cap)) (w.freeze ⟨n, cs.length, none⟩ 1) := by
  simp only [VS, convert, Sem.run_bind, run_underlying ht, run_underlying he, Result.andThen_ok, beq_self_eq_true, markStringish]
  simp [go_sem, World.shape?, hh]
 rw [hrun]
 refine ⟨_, ?_, hk⟩
 have hf : (w.freeze ⟨n, cs.length, none⟩ 1).heap[n]? = some (.cells cs.toArray et (cs.length, cs.length + 1)) := by
  simp [World.freeze, Array.getElem?_modify, hh]
 refine set_ro st hu rfl rfl rfl rfl (by simp [World.freeze]) (fun k hk _ => ?_) ⟨?_, fun j v hj => ?_⟩ rfl
 · simp [World.freeze, Array.getElem?_modify, Ne.symm hk]
 · simpa [World.freeze] using hlt
 · show World.cell? _ ⟨n, 0 + j, none⟩ = _
   simp only [World.cell?, hf]
   simpa using hj
theorem app_fresh {t ty e : TypeId} {xs news : List Value} {n m g g' o c cap : Nat} {i : TypeInfo} {z : Value} [hg : Look M g (.ro 0 xs)] (ht : P.underlying t = some (.slice e))
 (hi : P.info? e = some i) (hzv : i.zero = some z) (hsz : i.size = 1) (hzs : z.cells.size = 1) (hxl : xs.length = n) (hl : news.length = m) (hm0 : 0 < m) (hcap : cap < n + m) (hb : (n + m) * i.bytes ≤ 140737488355328) (hb2 : n + m ≤ 9223372036854775807)
 (hc : ∀ A w0 w, St A w0 w M → ∀ j v, news[j]? = some v → w.cell? ⟨g', o + j, none⟩ = some v)
 (h : ∀ S' : Own, S'.ok 1 (n + m) (xs ++ news) → k (S'.val (n + m)) (S'.blk e (xs ++ news) ++ M)) :
 Runs P (VS (Builtin.append_ #[t, t] ty #[.slice (some ⟨g, 0, none⟩) n cap, .slice (some ⟨g', o, none⟩) m c])) M k pan := by
 refine ⟨fun A w0 w st => ?_⟩
 generalize hs : Builtin.append_ #[t, t] ty #[.slice (some ⟨g, 0, none⟩) n cap, .slice (some ⟨g', o, none⟩) m c] = s
 have new : ∀ (cs : List Value) (cap : Nat), s.run P w = .ok (.slice (some ⟨w.heap.size, 0, none⟩) (n + m) cap) (w.drew.alloc (.cells (xs ++ news ++ cs).toArray e)) → n + m ≤ cap → (xs ++ news ++ cs).length = cap →
  PostN P (fun v w' => ∃ M', St A w0 w' M' ∧ k v M') (fun ch w' => ∃ M', St A w0 w' M' ∧ pan ch M') ((VS s).run P w) := by
  intro cs cap hr hle hcl
  have : (VS s).run P w = .ok (.value (.slice (some ⟨w.heap.size, 0, none⟩) (n + m) cap)) (w.drew.alloc (.cells (xs ++ news ++ cs).toArray e)) := by
   simp only [VS, Sem.run_bind, hr, Result.andThen_ok, Sem.run_pure]
  rw [this]
  have st1 := (st.drew (w.drawn + 1)).new (.cells (xs ++ news ++ cs).toArray e) (.row (xs ++ news ++ cs) e) (by simp [Blk.holds])
  refine ⟨_, st1, h (.at_ w.heap.size cap cs) ⟨by rw [List.length_append, hxl, hl, Nat.mul_one], hle, by simp only [List.length_append] at hcl ⊢; omega⟩⟩
 have hrun := run_append_grow (P := P) w t ty e i z ht hi hzv ⟨g, 0, none⟩ n cap xs (by rw [hsz, hxl, Nat.mul_one]) (fun j v hj => by
  rw [add_none]
  exact (st.has _ hg.mem).2 j v hj) ⟨g', o, none⟩ m c news (by rw [hsz, hl, Nat.mul_one]) (fun j v hj => by rw [add_none]; exact hc A w0 w st j v hj) (by omega) (by omega) (growslice_fits (by omega) hb)
 have hge := grownCap_ge w (n + m) cap e
 refine new (Builtin.zeroCells z.cells (grownCap w (n + m) cap e - (n + m))).toList (grownCap w (n + m) cap e) ?_ (by omega) ?_
 · rw [← hs]
   refine Eq.trans hrun ?_
   have ea : xs.toArray ++ news.toArray ++ Builtin.zeroCells z.cells (grownCap w (n + m) cap e - (n + m)) = (xs ++ news ++ (Builtin.zeroCells z.cells (grownCap w (n + m) cap e - (n + m))).toList).toArray := by apply Array.ext'; simp
   rw [ea]
 · rw [List.length_append, List.length_append, hxl, hl, zero_len, hzs]
   omega
end
def nextL (a : Dg) (s : ByteArray) : List UInt8 := [110, 101, 120, 116] ++ dl a ++ s.data.toList
def nextS (a : Dg) (s : ByteArray) : ByteArray := str (nextL a s)
theorem nextS_size (a : Dg) (s : ByteArray) : (nextS a s).size = s.size + 36 := by
 unfold nextS nextL; rw [Ev.str_size]; simp only [List.length_append, dl_len]; show 4 + 32 + s.data.toList.length = _
 have : s.data.toList.length = s.size := rfl
 omega
theorem dgV_all (a : Dg) : ((dgV a).drop 0).take (dgV a).length = dgV a := by rw [List.drop_zero, List.take_length]
attribute [local irreducible] nextL
theorem nadd (bn : Nat) (S : Own) (l : List UInt8) (s : ByteArray) (hs : s.size = 64) (hok : S.ok 1 36 (u8s l)) :
 Fnc Tryz.prog 246 [.string s, pt bn] (⟨bn, .cells [S.val 36] 142⟩ :: S.blk 5 (u8s l))
  (fun e A => ∃ S' : Own, S'.ok 1 100 (u8s (l ++ s.data.toList)) ∧ e = .returned (.bool true) ∧ A = ⟨bn, .cells [S'.val 100] 142⟩ :: S'.blk 5 (u8s (l ++ s.data.toList))) := by
 have e100 : 36 + s.size = 100 := by omega
 refine fn_intro Tryz.func246 (by kernel_rfl) ?_
 repeat' ((conv => whnf); first
  | (refine app_str rfl rfl rfl rfl rfl rfl hok (by omega) (fun S' hS' => ?_); rw [e100, ← u8s_append] at hS'; rw [e100, ← u8s_append]) | refine ld1_lit ?_ | refine st_lit rfl ?_ | refine need (by first | rfl | omega) ?_ | (refine ifs (fun h => ?_) (fun h => ?_) <;> try (exfalso; first | omega | with_reducible first | contradiction | exact h rfl)))
 all_goals (conv => whnf)
 all_goals exact fin_all ⟨S', hS', rfl, rfl⟩
theorem next_ (o : Orc) (a : Dg) (bk : Nat) (T : TypeId) (s : ByteArray) (hs : s.size = 64) (hb : o.ts.length ≤ 1099511627776) :
 Fnc Tryz.prog 219 [pt o.on, .agg (dgV a).toArray, .slice (some ⟨bk, 0, none⟩) 1 1] (⟨bk, .cells [.string s] T⟩ :: orcM o)
  (RetO o (addT o.ts (nextS a s)) (fun o' => ⟨bk, .cells [.string s] T⟩ :: orcM o') (.tuple #[.agg (dgV (D (nextS a s))).toArray, .int .i64 0])) := by
 have hsum := csum o (nextS a s) (by rw [nextS_size]; omega) hb
 have hns : str ([110, 101, 120, 116] ++ dl a ++ s.data.toList) = nextS a s := by unfold nextS nextL; rfl
 refine fn_intro Tryz.func219 (by kernel_rfl) ?_
 repeat' ((conv => whnf); first
  | refine force_of ?_ | refine nw_dg (fun n => ?_) | refine nw_z (fun n => ?_) | refine nw_row (cs' := u8s [110, 101, 120, 116] ++ []) rfl (fun n => ?_) | refine nv_eq (a := 0) rfl ?_ | refine nv_eq (a := 32) rfl ?_ | refine conv_mark rfl rfl ?_ | (refine app_fresh (xs := u8s [110, 101, 120, 116] ++ []) (n := 4) (m := 32) (news := dgV a) rfl rfl rfl rfl rfl rfl (dgV_len _) (by decide) (by decide) (by decide) (by decide) (cells_row (dgV_all a)) (fun S' hS' => ?_); rw [show u8s [110, 101, 120, 116] ++ [] ++ dgV a = u8s ([110, 101, 120, 116] ++ dl a) by rw [u8s_append, dgV_u8, List.append_nil]] at hS' ⊢) | refine loop_n 2 ?_ | (refine call_g (nadd _ S' _ s hs hS') (.blk takeC (.one takeE)) (fun e A' hq => ?_); obtain ⟨S2, hS2, h1, h2⟩ := hq; subst h1; subst h2) | (refine b2s_own (t := 5) hS2 rfl rfl rfl ?_; rw [hns]) | (refine call_go hsum (.one takeG) (fun o' h1 h2 => ?_)) | refine need (dgV_len _) ?_ | refine st_dg ?_ | refine ldN_dg rfl ?_ | refine ld1_lit ?_ | refine nw (fun n => ?_) | refine bld ?_ | refine st_lit rfl ?_ | refine need (by first | rfl | omega) ?_ | (refine wr (fun z hz => ?_); (try rw [Int.tdiv_eq_ediv_of_nonneg (by omega)] at hz); rw [w64 (by omega) (by omega)] at hz; subst hz) | (refine ifs (fun h => ?_) (fun h => ?_) <;> try (exfalso; first | omega | with_reducible first | contradiction | exact h rfl)))
 all_goals (conv => whnf)
 all_goals exact fin_g (A := ⟨bk, _⟩ :: orcM o') (.blk takeC (.one takeG)) ⟨o', h1, h2, rfl, rfl⟩
end Chn
end Go.Proofs.YtkjamonkohpcnaaGreat
