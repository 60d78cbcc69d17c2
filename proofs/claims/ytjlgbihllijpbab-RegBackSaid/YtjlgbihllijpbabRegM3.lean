/- What 96 bytes are as a register: plain laws. -/
import Derived.Test.YtjlgbihllijpbabRegM2
namespace Go.Proofs.Ytjlgbihllijpbab.Reg
open Go Ev Be Geom
set_option linter.unusedVariables false
set_option linter.unusedSimpArgs false
set_option maxRecDepth 100000

def S (c : Dg) : ByteArray := str (L96 c)
theorem S_size (c : Dg) : (S c).size = 96 := by unfold S; rw [Ev.str_size]; rfl
abbrev bD (c : Dg) : Dg := fun i => c (32 + i)
def eC (c : Dg) : Int := getN ((S c).extract 64 68)
def iC (c : Dg) : Int := getN ((S c).extract 68 76)
def fC (c : Dg) (k : Nat) : Int := ((c k).toNat : Int)
theorem fC_bd (c : Dg) (k : Nat) : 0 ≤ fC c k ∧ fC c k ≤ 255 := by unfold fC; have := (c k).toNat_lt; omega
def tC (c : Dg) : Bool := decide (fC c 82 = 1)
theorem by_at {s : ByteArray} {a n : Int} (h0 : 0 ≤ n) (ha : 0 ≤ a) (hs : a + n ≤ s.size) : byE s a n = 0 ∧ byS s a n = s.extract a.toNat (a + n).toNat ∧ byA s a n = a + n := by
  rcases by_cases' s a n with ⟨q, _⟩ | ⟨q, q2, _⟩ | ⟨q, q2, e1, e2, e3⟩
  · omega
  · omega
  · exact ⟨e1, e2, e3⟩
theorem cp0 (c : Dg) : ((S c).extract 0 32).data.toList.map (fun x => Value.int .u8 (x.toNat : Int)) = dV c := by
  unfold S; rw [ext_str, str_data]; rfl
theorem cp1 (c : Dg) : ((S c).extract 32 64).data.toList.map (fun x => Value.int .u8 (x.toNat : Int)) = dV (bD c) := by
  unfold S; rw [ext_str, str_data]; rfl
theorem bS (c : Dg) {k : Nat} (hk : k < 96) : byteAt (S c) k = fC c k := by
  have e : L96 c = (List.range 96).map c := rfl
  unfold S byteAt fC
  rw [str_data, e, List.getElem?_map, List.getElem?_range hk]
  rfl
theorem num_e (c : Dg) : nuN (S c) 64 4 = eC c ∧ nuA (S c) 64 4 = 68 := by
  have := nu_at (s := S c) (a := 64) (n := 4) (by omega) (by omega) (by omega) (by rw [S_size]; omega)
  exact ⟨this.1, this.2 (by omega)⟩
theorem num_i (c : Dg) : nuN (S c) 68 8 = iC c := (nu_at (s := S c) (a := 68) (n := 8) (by omega) (by omega) (by omega) (by rw [S_size]; omega)).1
theorem num_iA (c : Dg) (h : getE ((S c).extract 68 76) = 0) : nuA (S c) 68 8 = 76 := by
  rcases nu_cases (S c) 68 8 with ⟨q, _⟩ | ⟨q, q2, _⟩ | ⟨q, q2, q3, e1, e2, e3⟩ | ⟨q, q2, q3, e1, e2, e3⟩
  · omega
  · rw [S_size] at q2; omega
  · exact e3
  · exact absurd h q3
theorem num_iB (c : Dg) (h : ¬ getE ((S c).extract 68 76) = 0) : nuA (S c) 68 8 = 68 := by
  rcases nu_cases (S c) 68 8 with ⟨q, _⟩ | ⟨q, q2, _⟩ | ⟨q, q2, q3, e1, e2, e3⟩ | ⟨q, q2, q3, e1, e2, e3⟩
  · omega
  · rw [S_size] at q2; omega
  · exact absurd q3 h
  · exact e3
theorem iC_bad (c : Dg) (h : ¬ getE ((S c).extract 68 76) = 0) : iC c = 0 := by unfold iC getN; rw [if_neg h]
theorem S_data (c : Dg) : (S c).data.toList = (List.range 96).map c := by unfold S; rw [str_data]; rfl
theorem ext1 (c : Dg) {k : Nat} (hk : k < 96) : (S c).extract k (k + 1) = str [c k] := by
  rw [ext_bytes, S_data]
  refine congrArg str ?_
  rw [← List.map_take, ← List.map_drop, List.take_range, Nat.min_eq_left (by omega)]
  have : (List.range (k + 1)).drop k = [k] := by
    rw [List.range_succ, List.drop_append_of_le_length (by simp), List.drop_of_length_le (by simp)]; rfl
  rw [this]; rfl
theorem getN_1 (x : UInt8) : getN (str [x]) = (x.toNat : Int) := by
  have hE : getE (str [x]) = 0 := by
    unfold getE
    rw [Ev.str_size]
    simp
  unfold getN
  rw [if_pos hE, str_data]
  simp [bval]
theorem num1 (c : Dg) {k : Nat} (hk : k < 96) : nuN (S c) k 1 = fC c k ∧ nuA (S c) k 1 = ((k + 1 : Nat) : Int) := by
  have h1 := nu_at (s := S c) (a := k) (n := 1) (by omega) (by omega) (by omega) (by rw [S_size]; omega)
  refine ⟨?_, by have := h1.2 (by omega); rw [this]; omega⟩
  rw [h1.1, show ((k : Int)).toNat = k by omega, show ((k : Int) + 1).toNat = k + 1 by omega, ext1 c hk, getN_1]
  rfl
/-- The bytes are a register's. -/
structure GO (c : Dg) : Prop where
  iv : getE ((S c).extract 68 76) = 0
  rr : RR (bD c) (eC c) (iC c) (fC c 76) (fC c 78) (fC c 77) (fC c 79) (fC c 80) (fC c 81) (tC c)
  eq : str (layL c (bD c) (eC c) (iC c) (fC c 76) (fC c 78) (fC c 77) (fC c 79) (fC c 80) (fC c 81) (tC c)) = S c
theorem lay_bad (c : Dg) (h : ¬ getE ((S c).extract 68 76) = 0) (b : Dg) (e a0 a1 u0 u1 d m : Int) (t : Bool) : ¬ str (layL c b e 0 a0 a1 u0 u1 d m t) = S c := by
  intro hq
  apply h
  have := congrArg (fun l : List UInt8 => l[68]?) (str_inj.1 hq)
  have e1 : (layL c b e 0 a0 a1 u0 u1 d m t)[68]? = some (UInt8.ofNat ((0 : Int).toNat / 256 ^ 7 % 256)) := rfl
  have e2 : (L96 c)[68]? = some (c 68) := rfl
  simp only [e1, e2, Option.some.injEq] at this
  have hz : ((S c).extract 68 76).size = 8 := by rw [ByteArray.size_extract, S_size]; rfl
  unfold getE
  rw [if_neg (by omega), if_neg (by omega), if_neg]
  intro hb
  have e3 : byteAt ((S c).extract 68 76) 0 = fC c 68 := by
    unfold S
    rw [ext_str]
    rfl
  rw [e3] at hb
  unfold fC at hb
  rw [← this] at hb
  simp at hb
/-- The document's own way. -/
structure RO (c : Dg) : Prop where
  iv : getE ((S c).extract 68 76) = 0
  at' : fC c 82 ≤ 1
  m3 : fC c 83 = 103
  ze : (S c).extract 84 96 = str (List.replicate 12 0)
  rr : RR (bD c) (eC c) (iC c) (fC c 76) (fC c 78) (fC c 77) (fC c 79) (fC c 80) (fC c 81) (tC c)
theorem by1_fC (c : Dg) (k : Nat) : by1 (fC c k) = c k := by
  unfold by1 fC
  simp
theorem getE4 {s : ByteArray} (h : s.size = 4) : getE s = 0 := by
  unfold getE
  rw [if_neg (by omega), if_neg (by omega), if_neg (by omega)]
theorem bval_ext' {c : Dg} {i j k : Nat} (hj : j ≤ 96) (hk : j - i = k) (hij : i ≤ j) (hE : getE ((S c).extract i j) = 0) : bb k (getN ((S c).extract i j)).toNat = ((L96 c).take j).drop i := by
  rw [getN_val hE, Int.toNat_natCast]
  have hl : ((S c).extract i j).data.toList.length = k := by
    show ((S c).extract i j).size = k
    rw [ByteArray.size_extract, S_size]; omega
  have := bb_bval ((S c).extract i j).data.toList
  rw [hl] at this
  rw [this]
  unfold S
  rw [ext_str, str_data]
theorem go_iff (c : Dg) : GO c ↔ RO c := by
  constructor
  · rintro ⟨h1, h2, h3⟩
    have hl := str_inj.1 h3
    have k82 := congrArg (fun l : List UInt8 => l[82]?) hl
    have k83 := congrArg (fun l : List UInt8 => l[83]?) hl
    have e1 : ∀ t, (layL c (bD c) (eC c) (iC c) (fC c 76) (fC c 78) (fC c 77) (fC c 79) (fC c 80) (fC c 81) t)[82]? = some (if t then 1 else 0) := fun _ => rfl
    have e2 : ∀ t, (layL c (bD c) (eC c) (iC c) (fC c 76) (fC c 78) (fC c 77) (fC c 79) (fC c 80) (fC c 81) t)[83]? = some 103 := fun _ => rfl
    have e3 : (L96 c)[82]? = some (c 82) := rfl
    have e4 : (L96 c)[83]? = some (c 83) := rfl
    simp only [e1, e2, e3, e4, Option.some.injEq] at k82 k83
    refine ⟨h1, ?_, ?_, ?_, h2⟩
    · unfold fC; rw [← k82]; cases tC c <;> decide
    · unfold fC; rw [← k83]; rfl
    · conv => lhs; rw [← h3]
      rw [ext_str]
      rfl
  · rintro ⟨h1, h2, h3, h4, h5⟩
    refine ⟨h1, h5, ?_⟩
    have b4 := bval_ext' (c := c) (k := 4) (show 68 ≤ 96 by omega) (show 68 - 64 = 4 by omega) (by omega) (getE4 (by rw [ByteArray.size_extract, S_size]; rfl))
    have b8 := bval_ext' (c := c) (k := 8) (show 76 ≤ 96 by omega) (show 76 - 68 = 8 by omega) (by omega) h1
    have et : (if tC c then (1 : UInt8) else 0) = c 82 := by
      have hb := fC_bd c 82
      unfold tC
      apply UInt8.toNat_inj.1
      by_cases h : fC c 82 = 1
      · rw [decide_eq_true h]; unfold fC at h; simp; omega
      · rw [decide_eq_false h]; unfold fC at h h2 hb; simp; omega
    have e103 : (103 : UInt8) = c 83 := by
      apply UInt8.toNat_inj.1
      unfold fC at h3
      have : ((103 : UInt8).toNat : Int) = 103 := rfl
      omega
    have hz : ((L96 c).take 96).drop 84 = List.replicate 12 0 := by
      unfold S at h4
      rw [ext_str] at h4
      exact str_inj.1 h4
    unfold S
    refine congrArg str ?_
    unfold layL eC iC
    rw [b4, b8, et, e103, ← hz]
    simp only [by1_fC]
    have c1 : dl c ++ dl (bD c) = (L96 c).take 64 := rfl
    have c2 : [c 76, c 77, c 78, c 79, c 80, c 81, c 82, c 83] = ((L96 c).take 84).drop 76 := rfl
    have ec : ∀ (l : List UInt8) (i j : Nat), i ≤ j → l.take i ++ (l.take j).drop i = l.take j := by
      intro l i j h
      have := List.take_append_drop i (l.take j)
      rwa [List.take_take, Nat.min_eq_left h] at this
    rw [c1, c2, ec _ 64 68 (by omega), ec _ 68 76 (by omega), ec _ 76 84 (by omega), ec _ 84 96 (by omega)]
    rfl
theorem go_nz (c : Dg) (h : GO c) : ¬ S c = str (List.replicate 96 0) := by
  intro hq
  have h3 := ((go_iff c).1 h).m3
  have := congrArg (fun l : List UInt8 => l[83]?) (str_inj.1 hq)
  have e4 : (L96 c)[83]? = some (c 83) := rfl
  have e5 : (List.replicate 96 (0 : UInt8))[83]? = some 0 := rfl
  simp only [e4, e5, Option.some.injEq] at this
  unfold fC at h3
  rw [this] at h3
  simp at h3
end Go.Proofs.Ytjlgbihllijpbab.Reg
