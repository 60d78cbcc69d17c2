/- Plain laws of package be: what two texts are unlike in. -/
import Derived.Test.YtlmhagngbfcdkaaBeM
namespace Go.Proofs.Ytlmhagngbfcdkaa.Be
open Go Ev
set_option linter.unusedVariables false
set_option linter.unusedSimpArgs false

def xo (a b : ByteArray) : List UInt8 := List.zipWith (fun x y => x ^^^ y) a.data.toList b.data.toList
theorem xo_length {a b : ByteArray} (h : a.size = b.size) : (xo a b).length = a.size := by
  have h1 : a.data.toList.length = a.size := rfl
  have h2 : b.data.toList.length = b.size := rfl
  unfold xo
  rw [List.length_zipWith]; omega
theorem row_next {l : List UInt8} {i N : Nat} {z : Value} {b : Int} (hi : i < l.length) (hN : N = l.length) (hb : b = (l[i].toNat : Int)) :
    (u8s (l.take i) ++ List.replicate (N - i) z).set i (.int .u8 b) = u8s (l.take (i + 1)) ++ List.replicate (N - (i + 1)) z := by
  subst hN hb
  have e : l.length - i = (l.length - (i + 1)) + 1 := by omega
  rw [List.take_succ_eq_append_getElem hi, u8s_append, e, List.replicate_succ, List.set_append_right _ _ (by simp; omega)]
  have e2 : i - (u8s (List.take i l)).length = 0 := by simp; omega
  rw [e2, List.set_cons_zero, List.append_assoc]
  rfl
theorem ofInt_toNat {n : Nat} (h : n < 256) : (BitVec.ofInt 8 (n : Int)).toNat = n := by
  rw [BitVec.toNat_ofInt]; omega
theorem xor_u8 (x y : UInt8) : IntKind.u8.wrap ((BitVec.ofInt IntKind.u8.bits (x.toNat : Int) ^^^ BitVec.ofInt IntKind.u8.bits (y.toNat : Int)).toNat : Int) = ((x ^^^ y).toNat : Int) := by
  have e : (BitVec.ofInt IntKind.u8.bits (x.toNat : Int) ^^^ BitVec.ofInt IntKind.u8.bits (y.toNat : Int)).toNat = (x ^^^ y).toNat := by
    rw [BitVec.toNat_xor, UInt8.toNat_xor]
    show (BitVec.ofInt 8 _).toNat ^^^ (BitVec.ofInt 8 _).toNat = _
    rw [ofInt_toNat x.toNat_lt, ofInt_toNat y.toNat_lt]
  rw [e, IntKind.wrap_u8]
  have := (x ^^^ y).toNat_lt
  omega
theorem xor_at {a b : ByteArray} (h : a.size = b.size) {i : Nat} (hi : i < a.size) (hx : i < (xo a b).length) :
    IntKind.u8.wrap ((BitVec.ofInt IntKind.u8.bits (byteAt a i) ^^^ BitVec.ofInt IntKind.u8.bits (byteAt b i)).toNat : Int) = ((xo a b)[i].toNat : Int) := by
  have h1 : i < a.data.toList.length := hi
  have h2 : i < b.data.toList.length := by rw [h] at hi; exact hi
  rw [byteAt_eq hi, byteAt_eq (h ▸ hi), xor_u8]
  congr 1
  simp [xo]
theorem quo_pow {X k : Nat} (h : X < 256) : IntKind.i64.wrap ((X : Int).tdiv ((2 ^ k : Nat) : Int)) = ((X / 2 ^ k : Nat) : Int) := by
  rw [Int.tdiv_eq_ediv_of_nonneg (Int.natCast_nonneg _), ← Int.natCast_ediv]
  have h1 : X / 2 ^ k ≤ X := Nat.div_le_self _ _
  generalize X / 2 ^ k = y at *
  exact w64 (by omega) (by omega)
theorem rem_two (y : Nat) : (y : Int).tmod 2 = ((y % 2 : Nat) : Int) := by
  rw [Int.tmod_eq_emod_of_nonneg (Int.natCast_nonneg _)]; omega
theorem bit_xor (x y : UInt8) (k : Nat) : (x ^^^ y).toNat / 2 ^ k % 2 = if x.toNat / 2 ^ k % 2 = y.toNat / 2 ^ k % 2 then 0 else 1 := by
  have e : ((x ^^^ y).toNat).testBit k = (x.toNat.testBit k ^^ y.toNat.testBit k) := by rw [UInt8.toNat_xor, Nat.testBit_xor]
  simp only [Nat.testBit_eq_decide_div_mod_eq] at e
  have b1 := Nat.mod_two_eq_zero_or_one (x.toNat / 2 ^ k)
  have b2 := Nat.mod_two_eq_zero_or_one (y.toNat / 2 ^ k)
  have b3 := Nat.mod_two_eq_zero_or_one ((x ^^^ y).toNat / 2 ^ k)
  generalize x.toNat / 2 ^ k % 2 = p at *
  generalize y.toNat / 2 ^ k % 2 = q at *
  generalize (x ^^^ y).toNat / 2 ^ k % 2 = r at *
  rcases b1 with rfl | rfl <;> rcases b2 with rfl | rfl <;> rcases b3 with rfl | rfl <;> simp at e ⊢
theorem bit_next (c k : Nat) : c % 2 ^ (k + 1) = c % 2 ^ k + 2 ^ k * (c / 2 ^ k % 2) := Nat.mod_pow_succ
theorem pow_k {k : Nat} (h : k < 8) : 2 ^ k ≤ 128 := Nat.pow_le_pow_right (n := 2) (by omega) (show k ≤ 7 by omega)
theorem add_pow' {c k : Nat} (h : k < 8) : IntKind.i64.wrap (((c % 2 ^ k : Nat) : Int) + ((2 ^ k : Nat) : Int)) = ((c % 2 ^ k + 2 ^ k : Nat) : Int) := by
  have hp := pow_k h
  have hm := Nat.mod_lt c (Nat.two_pow_pos k)
  generalize c % 2 ^ k = u at *
  generalize 2 ^ k = v at *
  rw [w64 (by omega) (by omega)]; omega
theorem dbl_pow {k : Nat} (h : k < 8) : IntKind.i64.wrap (((2 ^ k : Nat) : Int) * 2) = ((2 ^ (k + 1) : Nat) : Int) := by
  have hp := pow_k h
  rw [Nat.pow_succ]
  generalize 2 ^ k = v at *
  rw [w64 (by omega) (by omega)]; omega
theorem xor_ne {x y : UInt8} {k : Nat} (h : ¬ ((x.toNat / 2 ^ k % 2 : Nat) : Int) = ((y.toNat / 2 ^ k % 2 : Nat) : Int)) : (x ^^^ y).toNat % 2 ^ (k + 1) = (x ^^^ y).toNat % 2 ^ k + 2 ^ k := by
  rw [bit_next, bit_xor, if_neg (fun hc => h (by rw [hc]))]; omega
theorem xor_eq {x y : UInt8} {k : Nat} (h : ((x.toNat / 2 ^ k % 2 : Nat) : Int) = ((y.toNat / 2 ^ k % 2 : Nat) : Int)) : (x ^^^ y).toNat % 2 ^ (k + 1) = (x ^^^ y).toNat % 2 ^ k := by
  rw [bit_next, bit_xor, if_pos (Int.ofNat_inj.1 h)]; omega
theorem byte_end {c : UInt8} {k : Nat} (h : (k : Int) = 8) : IntKind.u8.wrap ((c.toNat % 2 ^ k : Nat) : Int) = (c.toNat : Int) := by
  obtain rfl : k = 8 := by omega
  have := c.toNat_lt
  rw [IntKind.wrap_u8, Nat.mod_eq_of_lt this]
  omega
theorem xo_get {a b : ByteArray} (h : a.size = b.size) {i : Nat} (hi : i < a.size) : ∃ x y : UInt8, byteAt a i = (x.toNat : Int) ∧ byteAt b i = (y.toNat : Int) ∧ (xo a b)[i]? = some (x ^^^ y) := by
  have h1 : i < a.data.toList.length := hi
  have h2 : i < b.data.toList.length := by rw [h] at hi; exact hi
  refine ⟨a.data.toList[i], b.data.toList[i], byteAt_eq hi, byteAt_eq (h ▸ hi), ?_⟩
  unfold xo
  rw [List.getElem?_zipWith, List.getElem?_eq_getElem h1, List.getElem?_eq_getElem h2]
def xorS (a b : ByteArray) : ByteArray := if a.size = b.size then str (xo a b) else str []
def xorE (a b : ByteArray) : Int := if a.size = b.size then 0 else 6
theorem xorS_eq {a b : ByteArray} (h : (a.size : Int) = b.size) : xorS a b = str (xo a b) := if_pos (by omega)
theorem xorS_size {a b : ByteArray} (h : (a.size : Int) = b.size) : (xorS a b).size = a.size := by
  rw [xorS_eq h]
  have := xo_length (a := a) (b := b) (by omega)
  simpa using this
theorem zip_back : ∀ (l m : List UInt8), l.length = m.length → List.zipWith (fun x y => x ^^^ y) (List.zipWith (fun x y => x ^^^ y) l m) m = l
  | [], [], _ => rfl
  | x :: l, y :: m, h => by
    have ih := zip_back l m (by simpa using h)
    simp only [List.zipWith_cons_cons, ih]
    rw [UInt8.xor_assoc, UInt8.xor_self, UInt8.xor_zero]
theorem xorS_back {a b : ByteArray} (h : (a.size : Int) = b.size) : xorS (xorS a b) b = a := by
  have h1 := xorS_size h
  rw [xorS_eq (by omega), xorS_eq h]
  have : xo (str (xo a b)) b = a.data.toList := by
    unfold xo
    rw [str_data]
    exact zip_back _ _ (by show a.size = b.size; omega)
  rw [this, str_eta]
theorem xorE_eq {a b : ByteArray} (h : (a.size : Int) = b.size) : xorE a b = 0 := if_pos (by omega)
theorem xorE_ne {a b : ByteArray} (h : ¬ (a.size : Int) = b.size) : xorE a b = 6 := if_neg (by omega)
theorem xorS_ne {a b : ByteArray} (h : ¬ (a.size : Int) = b.size) : xorS a b = str [] := if_neg (by omega)
end Go.Proofs.Ytlmhagngbfcdkaa.Be
