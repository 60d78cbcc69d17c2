/- The first block's bytes: plain laws. -/
import Derived.Test.YtjlgbihllijpbabBeM4
import Derived.Test.YtjlgbihllijpbabBeM3
import Derived.Test.YtjlgbihllijpbabGeom
import Derived.Test.YtjlgbihllijpbabBeReads
namespace Go.Proofs.Ytjlgbihllijpbab.Geom
open Go Ev Be
set_option linter.unusedVariables false
set_option linter.unusedSimpArgs false

/-- What bytes are as a number, laid again: the bytes. -/
theorem bb_bval : ∀ (l : List UInt8), bb l.length (bval l) = l := by
  intro l
  have key : ∀ (l : List UInt8) (a : Nat), bb l.length (l.foldl (fun n (b : UInt8) => n * 256 + b.toNat) a) = l := by
    intro l
    induction l with
    | nil => intro a; rfl
    | cons b t ih =>
      intro a
      have e : ∀ (t : List UInt8) (c : Nat), t.foldl (fun n (b : UInt8) => n * 256 + b.toNat) c / 256 ^ t.length = c := by
        intro t
        induction t with
        | nil => intro c; simp
        | cons x t ih2 =>
          intro c
          rw [List.foldl_cons, List.length_cons, Nat.pow_succ, ← Nat.div_div_eq_div_mul, ih2]
          have := x.toNat_lt
          omega
      rw [List.length_cons, List.foldl_cons]
      unfold bb
      rw [ih, e]
      have : (a * 256 + b.toNat) % 256 = b.toNat := by have := b.toNat_lt; omega
      rw [this]
      simp
  exact key l 0
theorem str_size (l : List UInt8) : (str l).size = l.length := by simp [str, ByteArray.size]
theorem str_of (s : ByteArray) : s = str s.data.toList := (str_eta s).symm
theorem ext_str (l : List UInt8) (i j : Nat) : (str l).extract i j = str ((l.take j).drop i) := by
  apply ByteArray.ext
  simp [str, ByteArray.data_extract, List.extract_eq_take_drop, List.drop_take]

/-- A geometry's first block: the bytes ahead of the check, and all. -/
def headL (b s m : Int) : List UInt8 := [99, 108, 114, 116] ++ bb 2 b.toNat ++ bb 2 s.toNat ++ bb 8 m.toNat ++ List.replicate 16 0
def supS (b s m : Int) (c : ByteArray) : ByteArray := str (headL b s m) ++ c
theorem headL_length (b s m : Int) : (headL b s m).length = 32 := rfl
def gB (s : ByteArray) : Int := getN (s.extract 4 6)
def gS (s : ByteArray) : Int := getN (s.extract 6 8)
def gM (s : ByteArray) : Int := getN (s.extract 8 16)
def readOk (s : ByteArray) : Prop := s.size = 64 ∧ Right (gB s) (gS s) (gM s) ∧ supS (gB s) (gS s) (gM s) (s.extract 32 64) = s
instance (s : ByteArray) : Decidable (readOk s) := by unfold readOk; infer_instance
def refOk (s : ByteArray) : Prop := s.size = 64 ∧ s.extract 0 4 = { data := #[99, 108, 114, 116] } ∧ s.extract 16 32 = str (List.replicate 16 0) ∧ getE (s.extract 8 16) = 0 ∧ Right (gB s) (gS s) (gM s)

theorem putE2 {n : Int} (h0 : 0 ≤ n) (h1 : n ≤ 65535) : putE n 2 = 0 := by
  refine putE_ok (by omega) ?_
  have : ((256 : Int) ^ (2 : Int).toNat) = 65536 := rfl
  rw [this]; omega
theorem putE8 {n : Int} (h0 : 0 ≤ n) : putE n 8 = 0 := putE_ok (by omega) (by omega)
theorem right_b {b s m : Int} (h : Right b s m) : putE b 2 = 0 := putE2 (by have := h.1; omega) (by have := h.2.1; omega)
theorem right_s {b s m : Int} (h : Right b s m) : putE s 2 = 0 := putE2 (by have := h.2.2.2.1; omega) (by have := h.2.2.2.2.1; omega)
theorem right_m {b s m : Int} (h : Right b s m) : putE m 8 = 0 := putE8 (by have := h.2.2.2.2.2.1; omega)
theorem row_head {b s m : Int} (h : Right b s m) : rowE 2 [b, s] = 0 ∧ rowS 2 [b, s] = putS b 2 ++ putS s 2 := by
  have e : rowE 2 [b, s] = 0 := by
    unfold rowE
    rw [if_neg (by simp), if_neg (by omega)]
    simp [fe, right_b h, right_s h]
  refine ⟨e, ?_⟩
  unfold rowS
  rw [if_pos e]
  simp only [cat, List.flatMap_cons, List.flatMap_nil, List.append_nil]
  rw [← str_append, str_eta, str_eta]
theorem head_pad {b s m : Int} (h : Right b s m) : padE (({ data := #[99, 108, 114, 116] } : ByteArray) ++ (putS b 2 ++ putS s 2) ++ putS m 8) 32 = 0 ∧
    padS (({ data := #[99, 108, 114, 116] } : ByteArray) ++ (putS b 2 ++ putS s 2) ++ putS m 8) 32 = str (headL b s m) := by
  rw [putS_ok (right_b h), putS_ok (right_s h), putS_ok (right_m h)]
  have e : ({ data := #[99, 108, 114, 116] } : ByteArray) = str [99, 108, 114, 116] := rfl
  rw [e]
  simp only [str_append]
  generalize hl : [99, 108, 114, 116] ++ (bb (Int.toNat 2) b.toNat ++ bb (Int.toNat 2) s.toNat) ++ bb (Int.toNat 8) m.toNat = l
  have hlen : l.length = 16 := by rw [← hl]; rfl
  have hE : padE (str l) 32 = 0 := by
    unfold padE
    rw [if_neg (by omega), if_neg (by rw [str_size]; omega)]
  refine ⟨hE, ?_⟩
  unfold padS full
  rw [if_pos hE, if_neg (by rw [str_size]; omega), str_size, hlen, str_append, ← hl]
  rfl

theorem size_nil {n : Nat} (s : ByteArray) (h : s.size = n) : s.data.toList.length = n := h
theorem getE2 {s : ByteArray} (h : s.size = 2) : getE s = 0 := by
  unfold getE
  rw [if_neg (by omega), if_neg (by omega), if_neg (by omega)]
theorem getN_val {s : ByteArray} (h : getE s = 0) : getN s = bval s.data.toList := if_pos h
theorem nu_at {s : ByteArray} {a n : Int} (h1 : 1 ≤ n) (h8 : n ≤ 8) (ha : 0 ≤ a) (hs : a + n ≤ s.size) : nuN s a n = getN (s.extract a.toNat (a + n).toNat) ∧ (n < 8 → nuA s a n = a + n) := by
  have hz : (s.extract a.toNat (a + n).toNat).size = n.toNat := by rw [ByteArray.size_extract]; omega
  rcases nu_cases s a n with ⟨q, _⟩ | ⟨q, q2, _⟩ | ⟨q, q2, q3, e1, e2, e3⟩ | ⟨q, q2, q3, e1, e2, e3⟩
  · omega
  · omega
  · exact ⟨e2, fun _ => e3⟩
  · refine ⟨e2, fun h => absurd ?_ q3⟩
    unfold getE
    rw [if_neg (by omega), if_neg (by omega), if_neg (by omega)]
theorem read_nums {s : ByteArray} (h : s.size = 64) : nuN (s.extract 4 64) 0 2 = gB s ∧ nuA (s.extract 4 64) 0 2 = 2 ∧ nuN (s.extract 4 64) 2 2 = gS s ∧ nuA (s.extract 4 64) 2 2 = 4 ∧ nuN (s.extract 4 64) 4 8 = gM s := by
  have hz : (s.extract 4 64).size = 60 := by rw [ByteArray.size_extract]; omega
  have a1 := nu_at (s := s.extract 4 64) (a := 0) (n := 2) (by omega) (by omega) (by omega) (by omega)
  have a2 := nu_at (s := s.extract 4 64) (a := 2) (n := 2) (by omega) (by omega) (by omega) (by omega)
  have a3 := nu_at (s := s.extract 4 64) (a := 4) (n := 8) (by omega) (by omega) (by omega) (by omega)
  refine ⟨?_, a1.2 (by omega), ?_, a2.2 (by omega), ?_⟩
  · rw [a1.1, ByteArray.extract_extract]; rfl
  · rw [a2.1, ByteArray.extract_extract]; rfl
  · rw [a3.1, ByteArray.extract_extract]; rfl
theorem ext_bytes (s : ByteArray) (i j : Nat) : s.extract i j = str ((s.data.toList.take j).drop i) := by
  conv => lhs; rw [← str_eta s]
  exact ext_str _ _ _
theorem bval_ext {s : ByteArray} {i j k : Nat} (hs : s.size = 64) (hj : j ≤ 64) (hk : j - i = k) (hij : i ≤ j) (hE : getE (s.extract i j) = 0) : bb k (getN (s.extract i j)).toNat = (s.data.toList.take j).drop i := by
  rw [getN_val hE, Int.toNat_natCast]
  have hl : (s.extract i j).data.toList.length = k := by
    show (s.extract i j).size = k
    rw [ByteArray.size_extract]; omega
  have := bb_bval (s.extract i j).data.toList
  rw [hl] at this
  rw [this, ext_bytes, str_data]
theorem cut_all {l : List UInt8} : l = l.take 4 ++ ((l.take 6).drop 4) ++ ((l.take 8).drop 6) ++ ((l.take 16).drop 8) ++ ((l.take 32).drop 16) ++ l.drop 32 := by
  have e : ∀ (i j : Nat), i ≤ j → l.take i ++ (l.take j).drop i = l.take j := by
    intro i j h
    have := List.take_append_drop i (l.take j)
    rwa [List.take_take, Nat.min_eq_left h] at this
  rw [e 4 6 (by omega), e 6 8 (by omega), e 8 16 (by omega), e 16 32 (by omega), List.take_append_drop]
theorem read_iff {s : ByteArray} : readOk s ↔ refOk s := by
  constructor
  · rintro ⟨h1, h2, h3⟩
    have hE : getE (s.extract 8 16) = 0 := by
      by_cases h : getE (s.extract 8 16) = 0
      · exact h
      · have : gM s = 0 := if_neg h
        have := h2.2.2.2.2.2.1
        omega
    refine ⟨h1, ?_, ?_, hE, h2⟩
    · conv => lhs; rw [← h3]
      unfold supS
      rw [show (s.extract 32 64) = str (s.extract 32 64).data.toList from (str_eta _).symm, str_append, ext_str]
      rfl
    · conv => lhs; rw [← h3]
      unfold supS
      rw [show (s.extract 32 64) = str (s.extract 32 64).data.toList from (str_eta _).symm, str_append, ext_str]
      rfl
  · rintro ⟨h1, h2, h3, h4, h5⟩
    refine ⟨h1, h5, ?_⟩
    have e1 := bval_ext (k := 2) h1 (show 6 ≤ 64 by omega) (show 6 - 4 = 2 by omega) (by omega) (getE2 (by rw [ByteArray.size_extract]; omega))
    have e2 := bval_ext (k := 2) h1 (show 8 ≤ 64 by omega) (show 8 - 6 = 2 by omega) (by omega) (getE2 (by rw [ByteArray.size_extract]; omega))
    have e3 := bval_ext (k := 8) h1 (show 16 ≤ 64 by omega) (show 16 - 8 = 8 by omega) (by omega) h4
    unfold supS headL gB gS gM
    rw [e1, e2, e3]
    rw [ext_bytes] at h2 h3
    have h2' : s.data.toList.take 4 = [99, 108, 114, 116] := by
      have : str ((s.data.toList.take 4).drop 0) = str [99, 108, 114, 116] := h2
      simpa using str_inj.1 this
    have h3' := str_inj.1 h3
    rw [← h2', ← h3', ext_bytes, str_append]
    have hl : s.data.toList.take 64 = s.data.toList := List.take_of_length_le (by show s.size ≤ 64; omega)
    rw [hl, ← cut_all, str_eta]
theorem sup_back {b s m : Int} {c : ByteArray} (h : Right b s m) (hc : c.size = 32) : readOk (supS b s m c) ∧ gB (supS b s m c) = b ∧ gS (supS b s m c) = s ∧ gM (supS b s m c) = m ∧ (supS b s m c).extract 32 64 = c := by
  have hl : c.data.toList.length = 32 := hc
  have e0 : supS b s m c = str (headL b s m ++ c.data.toList) := by unfold supS; rw [← str_append, str_eta]
  have hm : m ≤ 9223372036854775807 := by have := h.2.2.2.2.2.2; omega
  have eB : gB (supS b s m c) = b := by
    unfold gB
    rw [e0, ext_str]
    have : ((headL b s m ++ c.data.toList).take 6).drop 4 = bb 2 b.toNat := rfl
    rw [this, show str (bb 2 b.toNat) = putS b 2 from (putS_ok (right_b h)).symm]
    exact (putS_get (by have := h.2.1; omega) (right_b h)).2
  have eS : gS (supS b s m c) = s := by
    unfold gS
    rw [e0, ext_str]
    have : ((headL b s m ++ c.data.toList).take 8).drop 6 = bb 2 s.toNat := rfl
    rw [this, show str (bb 2 s.toNat) = putS s 2 from (putS_ok (right_s h)).symm]
    exact (putS_get (by have := h.2.2.2.2.1; omega) (right_s h)).2
  have eM : gM (supS b s m c) = m := by
    unfold gM
    rw [e0, ext_str]
    have : ((headL b s m ++ c.data.toList).take 16).drop 8 = bb 8 m.toNat := rfl
    rw [this, show str (bb 8 m.toNat) = putS m 8 from (putS_ok (right_m h)).symm]
    exact (putS_get hm (right_m h)).2
  have eC : (supS b s m c).extract 32 64 = c := by
    rw [e0, ext_str, List.take_of_length_le (by rw [List.length_append, headL_length]; omega), List.drop_append_of_le_length (by rw [headL_length]; omega), List.drop_of_length_le (by rw [headL_length]; omega), List.nil_append, str_eta]
  refine ⟨⟨?_, by rw [eB, eS, eM]; exact h, by rw [eB, eS, eM, eC]⟩, eB, eS, eM, eC⟩
  rw [e0, str_size, List.length_append, headL_length]; omega
end Go.Proofs.Ytjlgbihllijpbab.Geom
