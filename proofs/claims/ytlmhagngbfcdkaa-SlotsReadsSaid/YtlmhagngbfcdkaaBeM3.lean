/- Plain laws of package be: bytes of numbers are in order as the numbers are, and give them back. -/
import Derived.Test.YtlmhagngbfcdkaaBeM
namespace Go.Proofs.Ytlmhagngbfcdkaa.Be
open Go Ev
set_option linter.unusedVariables false
set_option linter.unusedSimpArgs false

theorem step_pow (n i : Nat) : n % 256 ^ (i + 1) = n % 256 ^ i + 256 ^ i * (n / 256 ^ i % 256) := Nat.mod_pow_succ
theorem less_arith {B u v p q : Nat} (hp : p < B) (hq : q < B) : (p + B * u < q + B * v) ↔ (u < v ∨ (u = v ∧ p < q)) := by
  constructor
  · intro h
    by_cases h1 : u < v
    · exact .inl h1
    · by_cases h2 : u = v
      · subst h2; exact .inr ⟨rfl, by omega⟩
      · have : B * (v + 1) ≤ B * u := Nat.mul_le_mul_left _ (by omega)
        rw [Nat.mul_add] at this; omega
  · rintro (h | ⟨rfl, h⟩)
    · have : B * (u + 1) ≤ B * v := Nat.mul_le_mul_left _ (by omega)
      rw [Nat.mul_add] at this; omega
    · omega
theorem less_bb : ∀ (i a b : Nat), Op.bytesLess (bb i a) (bb i b) = true ↔ a % 256 ^ i < b % 256 ^ i
  | 0, a, b => by simp [bb, Op.bytesLess, Nat.mod_one]
  | i + 1, a, b => by
    have ih := less_bb i a b
    have hp := Nat.mod_lt a (show 0 < 256 ^ i from Nat.pow_pos (by omega))
    have hq := Nat.mod_lt b (show 0 < 256 ^ i from Nat.pow_pos (by omega))
    rw [step_pow a, step_pow b, less_arith hp hq]
    simp only [bb, Op.bytesLess, Bool.or_eq_true, Bool.and_eq_true, decide_eq_true_eq, beq_iff_eq, ih]
    have hu : a / 256 ^ i % 256 < 256 := Nat.mod_lt _ (by omega)
    have hv : b / 256 ^ i % 256 < 256 := Nat.mod_lt _ (by omega)
    generalize a / 256 ^ i % 256 = u at *
    generalize b / 256 ^ i % 256 = v at *
    have e1 : UInt8.ofNat u < UInt8.ofNat v ↔ u < v := by
      rw [UInt8.lt_iff_toNat_lt, UInt8.toNat_ofNat', UInt8.toNat_ofNat']
      omega
    have e2 : UInt8.ofNat u = UInt8.ofNat v ↔ u = v := by
      rw [← UInt8.toNat_inj, UInt8.toNat_ofNat', UInt8.toNat_ofNat']
      omega
    rw [e1, e2]
theorem fold_bb : ∀ (i n acc : Nat), (bb i n).foldl (fun n (b : UInt8) => n * 256 + b.toNat) acc = acc * 256 ^ i + n % 256 ^ i
  | 0, n, acc => by simp [bb, Nat.mod_one]
  | i + 1, n, acc => by
    simp only [bb, List.foldl_cons]
    rw [fold_bb i n, step_pow, UInt8.toNat_ofNat', Nat.mod_eq_of_lt (Nat.mod_lt _ (by omega)), Nat.pow_succ, Nat.add_mul, Nat.mul_assoc, Nat.mul_comm 256, Nat.mul_comm (n / 256 ^ i % 256)]
    omega
theorem bval_bb (i n : Nat) : bval (bb i n) = n % 256 ^ i := by
  have := fold_bb i n 0
  simpa [bval] using this

/-- What is put has room. -/
theorem put_room {a k : Int} (ha : a ≤ 9223372036854775807) (h : putE a k = 0) : 1 ≤ k ∧ k ≤ 8 ∧ 0 ≤ a ∧ a.toNat < 256 ^ k.toNat := by
  unfold putE at h
  by_cases h1 : k < 1 ∨ 8 < k
  · rw [if_pos h1] at h; cases h
  · rw [if_neg h1] at h
    by_cases h2 : a < 0 ∨ (k < 8 ∧ (256 ^ k.toNat : Int) ≤ a)
    · rw [if_pos h2] at h; cases h
    · refine ⟨by omega, by omega, by omega, ?_⟩
      by_cases h8 : k = 8
      · subst h8
        show a.toNat < 18446744073709551616
        omega
      · have h3 : ¬ (256 ^ k.toNat : Int) ≤ a := by omega
        have e : ((256 ^ k.toNat : Nat) : Int) = (256 ^ k.toNat : Int) := Int.natCast_pow 256 _
        omega
theorem putS_less {a b k : Int} (ha : a ≤ 9223372036854775807) (hb : b ≤ 9223372036854775807) (h1 : putE a k = 0) (h2 : putE b k = 0) : Op.bytesLess (putS a k).toList (putS b k).toList = true ↔ a < b := by
  obtain ⟨_, _, a0, al⟩ := put_room ha h1
  obtain ⟨_, _, b0, bl⟩ := put_room hb h2
  rw [putS_ok h1, putS_ok h2, ByteArray.toList_eq, ByteArray.toList_eq, str_data, str_data, less_bb, Nat.mod_eq_of_lt al, Nat.mod_eq_of_lt bl]
  omega
theorem putS_eq {a b k : Int} (ha : a ≤ 9223372036854775807) (hb : b ≤ 9223372036854775807) (h1 : putE a k = 0) (h2 : putE b k = 0) : putS a k = putS b k ↔ a = b := by
  obtain ⟨_, _, a0, al⟩ := put_room ha h1
  obtain ⟨_, _, b0, bl⟩ := put_room hb h2
  rw [putS_ok h1, putS_ok h2, str_inj]
  constructor
  · intro h
    have := congrArg bval h
    rw [bval_bb, bval_bb, Nat.mod_eq_of_lt al, Nat.mod_eq_of_lt bl] at this
    omega
  · intro h; rw [h]
theorem putS_size {a k : Int} (h : putE a k = 0) : ((putS a k).size : Int) = k := by
  have hk : 1 ≤ k := by
    unfold putE at h
    by_cases h1 : k < 1 ∨ 8 < k
    · rw [if_pos h1] at h; cases h
    · omega
  rw [putS_ok h]; simp; omega
theorem putS_get {a k : Int} (ha : a ≤ 9223372036854775807) (h : putE a k = 0) : getE (putS a k) = 0 ∧ getN (putS a k) = a := by
  obtain ⟨k1, k8, a0, al⟩ := put_room ha h
  have hs := putS_size h
  have e : getE (putS a k) = 0 := by
    unfold getE
    rw [if_neg (by omega), if_neg (by omega), if_neg]
    rintro ⟨h8, hb⟩
    obtain rfl : k = 8 := by omega
    have hb' : byteAt (putS a 8) 0 = ((a.toNat / 256 ^ 7 % 256 : Nat) : Int) := by
      rw [putS_ok h]
      show (((UInt8.ofNat (a.toNat / 256 ^ 7 % 256)).toNat : Nat) : Int) = _
      rw [UInt8.toNat_ofNat']
      omega
    rw [hb'] at hb
    have : a.toNat / 256 ^ 7 ≤ 127 := by
      rw [show (256 ^ 7 : Nat) = 72057594037927936 from rfl]
      omega
    omega
  refine ⟨e, ?_⟩
  unfold getN
  rw [if_pos e, putS_ok h, str_data, bval_bb, Nat.mod_eq_of_lt al]
  omega
end Go.Proofs.Ytlmhagngbfcdkaa.Be
