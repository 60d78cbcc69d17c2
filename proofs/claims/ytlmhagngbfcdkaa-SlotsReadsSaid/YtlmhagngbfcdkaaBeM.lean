/- Numbers and their bytes: plain arithmetic. -/
import Derived.Test.YtlmhagngbfcdkaaEl
namespace Go.Proofs.Ytlmhagngbfcdkaa.Be
open Go Ev
set_option linter.unusedVariables false
set_option linter.unusedSimpArgs false

/-- The last i bytes of n, the greatest first. -/
def bb : Nat → Nat → List UInt8
  | 0, _ => []
  | i + 1, n => UInt8.ofNat (n / 256 ^ i % 256) :: bb i n
@[simp] theorem bb_length : ∀ (i n : Nat), (bb i n).length = i
  | 0, _ => rfl
  | i + 1, n => by simp [bb, bb_length i n]
def putE (n w : Int) : Int := if w < 1 ∨ 8 < w then 2 else if n < 0 ∨ (w < 8 ∧ (256 ^ w.toNat : Int) ≤ n) then 3 else 0
def putS (n w : Int) : ByteArray := if putE n w = 0 then (str (bb w.toNat n.toNat)) else str []

theorem shr_eq {n j : Int} (hn : 0 ≤ n) (h0 : 0 ≤ j) (h7 : j ≤ 7) : n.fdiv (2 ^ min (8 * j).toNat IntKind.i64.bits) = n / (256 ^ j.toNat : Int) := by
  have e1 : min (8 * j).toNat IntKind.i64.bits = 8 * j.toNat := by
    have : IntKind.i64.bits = 64 := rfl
    omega
  rw [e1, Int.pow_mul, Int.fdiv_eq_ediv_of_nonneg _ (by exact Int.le_of_lt (Int.pow_pos (by decide)))]
  rfl
theorem pow_pos' (k : Nat) : (0 : Int) < 256 ^ k := Int.pow_pos (by decide)
theorem pos_div {n : Int} {k : Nat} (hn : 0 ≤ n) : 0 < n / (256 ^ k : Int) ↔ (256 ^ k : Int) ≤ n := by
  constructor
  · intro h
    have := (Int.le_ediv_iff_mul_le (pow_pos' k)).1 (show (1 : Int) ≤ n / 256 ^ k by omega)
    omega
  · intro h
    have := (Int.le_ediv_iff_mul_le (pow_pos' k)).2 (show (1 : Int) * 256 ^ k ≤ n by omega)
    omega
theorem putE_arg {n w : Int} (h : w < 1 ∨ 8 < w) : putE n w = 2 := by unfold putE; rw [if_pos h]
theorem putE_range {n w : Int} (h : ¬ (w < 1 ∨ 8 < w)) (h' : n < 0 ∨ (w < 8 ∧ (256 ^ w.toNat : Int) ≤ n)) : putE n w = 3 := by unfold putE; rw [if_neg h, if_pos h']
theorem putE_ok {n w : Int} (h : ¬ (w < 1 ∨ 8 < w)) (h' : ¬ (n < 0 ∨ (w < 8 ∧ (256 ^ w.toNat : Int) ≤ n))) : putE n w = 0 := by unfold putE; rw [if_neg h, if_neg h']
theorem putS_no {n w : Int} (h : putE n w ≠ 0) : putS n w = str [] := by unfold putS; rw [if_neg h]
theorem putS_ok {n w : Int} (h : putE n w = 0) : putS n w = (str (bb w.toNat n.toNat)) := by unfold putS; rw [if_pos h]
/-- A byte of a number, as a cell. -/
theorem byte_cell (n : Int) (hn : 0 ≤ n) (i : Nat) : IntKind.u8.wrap (n / (256 ^ i : Int)) = ((UInt8.ofNat (n.toNat / 256 ^ i % 256)).toNat : Int) := by
  obtain ⟨m, rfl⟩ := Int.eq_ofNat_of_zero_le hn
  rw [IntKind.wrap_u8]
  have e : ((m : Int) / (256 ^ i : Int)) = ((m / 256 ^ i : Nat) : Int) := by
    rw [Int.natCast_ediv]; congr 1
  rw [e]
  simp only [UInt8.toNat_ofNat', Int.toNat_natCast]
  omega
theorem row_set {w i : Nat} (hi : i < w) (z : Value) (n : Nat) (b : UInt8) : (List.replicate (w - i) z ++ u8s (bb i n)).set (w - 1 - i) (.int .u8 b.toNat) = List.replicate (w - (i + 1)) z ++ u8s (b :: bb i n) := by
  have e : w - i = (w - (i + 1)) + 1 := by omega
  have e2 : w - 1 - i = w - (i + 1) := by omega
  rw [e, List.replicate_succ', e2, List.append_assoc]
  rw [List.set_append_right _ _ (by simp)]
  simp [u8s]

/-! ### what bytes are as a number -/
def bval (l : List UInt8) : Nat := l.foldl (fun n b => n * 256 + b.toNat) 0
theorem bval_snoc (l : List UInt8) (b : UInt8) : bval (l ++ [b]) = bval l * 256 + b.toNat := by simp [bval]
theorem bval_take {l : List UInt8} {i : Nat} (h : i < l.length) : bval (l.take (i + 1)) = bval (l.take i) * 256 + l[i].toNat := by
  rw [List.take_succ_eq_append_getElem h, bval_snoc]
theorem foldl_lt : ∀ (l : List UInt8) (a : Nat), l.foldl (fun n (b : UInt8) => n * 256 + b.toNat) a < (a + 1) * 256 ^ l.length
  | [], a => by simp
  | b :: t, a => by
    have ih := foldl_lt t (a * 256 + b.toNat)
    have hb := b.toNat_lt
    refine Nat.lt_of_lt_of_le ih ?_
    rw [List.length_cons, Nat.pow_succ]
    have h1 : a * 256 + b.toNat + 1 ≤ (a + 1) * 256 := by omega
    have := Nat.mul_le_mul_right (256 ^ t.length) h1
    have e : (a + 1) * (256 ^ t.length * 256) = (a + 1) * 256 * 256 ^ t.length := by
      rw [Nat.mul_assoc, Nat.mul_comm (256 ^ t.length) 256]
    rw [e]; exact this
theorem bval_lt (l : List UInt8) : bval l < 256 ^ l.length := by simpa [bval] using foldl_lt l 0
theorem bval_cons_lt (b : UInt8) (t : List UInt8) : bval (b :: t) < (b.toNat + 1) * 256 ^ t.length := by simpa [bval] using foldl_lt t b.toNat
def getE (s : ByteArray) : Int := if s.size = 0 then 5 else if 8 < s.size then 4 else if s.size = 8 ∧ 127 < byteAt s 0 then 3 else 0
def getN (s : ByteArray) : Int := if getE s = 0 then bval s.data.toList else 0
theorem size_eq (s : ByteArray) : s.size = s.data.toList.length := rfl
theorem byteAt_eq {s : ByteArray} {i : Nat} (h : i < s.size) : byteAt s i = ((s.data.toList[i]'(by rw [size_eq] at h; exact h)).toNat : Int) := by
  have h' : i < s.data.toList.length := by rw [size_eq] at h; exact h
  unfold byteAt
  rw [List.getElem?_eq_getElem h']; rfl
theorem byteAt_bd (s : ByteArray) (i : Nat) : 0 ≤ byteAt s i ∧ byteAt s i ≤ 255 := by
  unfold byteAt
  have := ((s.data.toList[i]?).getD 0).toNat_lt
  omega
/-- While it is read the number has room for one byte more. -/
theorem bval_room {s : ByteArray} (h8 : s.size ≤ 8) (h1 : s.size = 8 → byteAt s 0 ≤ 127) {i : Nat} (hi : i < s.size) : (bval (s.data.toList.take i) : Int) * 256 + 255 ≤ 9223372036854775807 := by
  have hl : s.data.toList.length = s.size := rfl
  by_cases h : s.size = 8
  · have hb := h1 h
    rcases Nat.eq_zero_or_pos i with rfl | hp
    · simp [bval]
    · have h0 : 0 < s.data.toList.length := by omega
      rw [byteAt_eq (by omega)] at hb
      cases hd : s.data.toList with
      | nil => rw [hd] at h0; simp at h0
      | cons b t =>
        have hbt : b.toNat ≤ 127 := by simp only [hd] at hb; simp at hb; omega
        obtain ⟨j, rfl⟩ : ∃ j, i = j + 1 := ⟨i - 1, by omega⟩
        rw [List.take_succ_cons]
        have hlt := bval_cons_lt b (t.take j)
        have hlen : (t.take j).length ≤ 6 := by rw [List.length_take]; omega
        have hp := Nat.pow_le_pow_right (show 0 < 256 by decide) hlen
        have := Nat.mul_le_mul (show b.toNat + 1 ≤ 128 by omega) hp
        omega
  · have hlt := bval_lt (s.data.toList.take i)
    have hlen : (s.data.toList.take i).length ≤ 6 := by rw [List.length_take]; omega
    have hp := Nat.pow_le_pow_right (show 0 < 256 by decide) hlen
    omega
theorem or_byte {a b : Nat} (ha : a * 256 + 255 ≤ 9223372036854775807) (hb : b < 256) :
    ((BitVec.ofInt IntKind.i64.bits ((a : Int) * 256) ||| BitVec.ofInt IntKind.i64.bits (b : Int)).toNat : Int) = (a : Int) * 256 + b := by
  have e1 : (BitVec.ofInt IntKind.i64.bits ((a : Int) * 256)).toNat = a * 256 := by
    have : IntKind.i64.bits = 64 := rfl
    rw [this, BitVec.toNat_ofInt]
    omega
  have e2 : (BitVec.ofInt IntKind.i64.bits (b : Int)).toNat = b := by
    have : IntKind.i64.bits = 64 := rfl
    rw [this, BitVec.toNat_ofInt]
    omega
  rw [BitVec.toNat_or, e1, e2]
  have h := Nat.shiftLeft_add_eq_or_of_lt (show b < 2 ^ 8 by omega) a
  rw [Nat.shiftLeft_eq] at h
  have h' : a * 256 ||| b = a * 256 + b := by simpa using h.symm
  rw [h']
  omega
theorem byte_mod (q : Nat) : IntKind.u8.wrap ((q : Int) % 256) = ((UInt8.ofNat (q % 256)).toNat : Int) := by
  rw [IntKind.wrap_u8]
  simp only [UInt8.toNat_ofNat']
  omega
theorem byte_tmod (q : Nat) : IntKind.u8.wrap ((q : Int).tmod 256) = ((UInt8.ofNat (q % 256)).toNat : Int) := by
  rw [Int.tmod_eq_emod_of_nonneg (Int.natCast_nonneg _)]; exact byte_mod q
theorem or_step {s : ByteArray} {i : Nat} (hi : i < s.size) (hr : (bval (s.data.toList.take i) : Int) * 256 + 255 ≤ 9223372036854775807) :
    IntKind.i64.wrap ((BitVec.ofInt IntKind.i64.bits ((bval (s.data.toList.take i) : Int) * 256) ||| BitVec.ofInt IntKind.i64.bits (byteAt s (Int.toNat (i : Int)))).toNat : Int) = (bval (s.data.toList.take (i + 1)) : Int) := by
  have hl : i < s.data.toList.length := hi
  have hb := UInt8.toNat_lt (s.data.toList[i]'hl)
  rw [Int.toNat_natCast, byteAt_eq hi, or_byte (by omega) hb, w64 (by omega) (by omega), bval_take hl]
  rfl
theorem mul_step {s : ByteArray} {i : Nat} (hi : i < s.size) (hr : (bval (s.data.toList.take i) : Int) * 256 + 255 ≤ 9223372036854775807) :
    IntKind.i64.wrap ((bval (s.data.toList.take i) : Int) * 256 + byteAt s (Int.toNat (i : Int))) = (bval (s.data.toList.take (i + 1)) : Int) := by
  have hl : i < s.data.toList.length := hi
  have hb := UInt8.toNat_lt (s.data.toList[i]'hl)
  rw [Int.toNat_natCast, byteAt_eq hi, w64 (by omega) (by omega), bval_take hl]
  rfl
theorem div_step {q : Int} (hq : q ≤ 9223372036854775807) (i : Nat) : IntKind.i64.wrap (((q.toNat / 256 ^ i : Nat) : Int).tdiv 256) = ((q.toNat / 256 ^ (i + 1) : Nat) : Int) := by
  have e : q.toNat / 256 ^ (i + 1) = q.toNat / 256 ^ i / 256 := by rw [Nat.pow_succ, Nat.div_div_eq_div_mul]
  have h1 : q.toNat / 256 ^ i ≤ q.toNat := Nat.div_le_self _ _
  rw [e, Int.tdiv_eq_ediv_of_nonneg (Int.natCast_nonneg _)]
  generalize q.toNat / 256 ^ i = a at *
  rw [w64 (by omega) (by omega)]
  omega
end Go.Proofs.Ytlmhagngbfcdkaa.Be
