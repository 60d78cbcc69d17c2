/- The laws of layer 1: their Go functions return true. -/
import Derived.Test.YtjlgbihllijpbaaBe3
import Derived.Test.YtjlgbihllijpbaaBeM3
import Derived.Test.YtjlgbihllijpbaaBe4
namespace Go.Proofs.Ytjlgbihllijpbaa.Be
open Go Ev
set_option linter.unusedVariables false
set_option linter.unusedSimpArgs false

attribute [local irreducible] xorS xorE putS putE getN getE padS padE byS byE byA nuN nuE nuA full

theorem bePuts (n w : Int) (s : ByteArray) (hn : n ≤ 9223372036854775807) : Fnc Try.prog 5 [.int .i64 n, .int .i64 w, .string s] [] (Ret (.bool true) []) := by
  refine fn_intro Try.func5 (by kernel_rfl) ?_
  repeat' ((conv => whnf); first
      | refine call_val (put _ _) ?_
      | refine call_val (put01 _ _ hn) ?_
      | refine call_val (get _) ?_
      | refine call_val (get01 _) ?_
      | refine call_val awake ?_
      | exact fin_nil ⟨ret_bool rfl, rfl⟩
      | refine ld1_lit ?_
      | refine ldN_lit ?_
      | refine nw (fun n => ?_)
      | refine st_lit rfl ?_
      | refine need (by first | rfl | omega) ?_
      | (refine wr (fun z hz => ?_); (try rw [Int.tdiv_eq_ediv_of_nonneg (by omega)] at hz); rw [w64 (by omega) (by omega)] at hz; subst hz)
      | (refine zv (fun z hz => ?_); (try rw [Int.tmod_eq_emod_of_nonneg (by omega)] at hz); subst hz)
      | (refine ifs (fun h => ?_) (fun h => ?_) <;> (try (exfalso; first | omega | with_reducible contradiction | with_reducible exact h rfl)))
      | refine fin_nil ⟨?_, rfl⟩)

theorem beNone (n : Int) : Fnc Try.prog 12 [.int .i64 n] [] (Ret (.bool true) []) := by
  refine fn_intro Try.func12 (by kernel_rfl) ?_
  repeat' ((conv => whnf); first
      | refine call_val (num_nil _) ?_
      | refine call_val (bytes_nil _) ?_
      | refine call_val left_nil ?_
      | refine call_val end_nil ?_
      | refine call_val awake ?_
      | exact fin_nil ⟨ret_bool rfl, rfl⟩
      | refine ld1_lit ?_
      | refine ldN_lit ?_
      | refine nw (fun n => ?_)
      | refine st_lit rfl ?_
      | refine need (by first | rfl | omega) ?_
      | (refine wr (fun z hz => ?_); (try rw [Int.tdiv_eq_ediv_of_nonneg (by omega)] at hz); rw [w64 (by omega) (by omega)] at hz; subst hz)
      | (refine zv (fun z hz => ?_); (try rw [Int.tmod_eq_emod_of_nonneg (by omega)] at hz); subst hz)
      | (refine ifs (fun h => ?_) (fun h => ?_) <;> (try (exfalso; first | omega | with_reducible contradiction | with_reducible exact h rfl)))
      | refine fin_nil ⟨?_, rfl⟩)

set_option maxHeartbeats 400000 in
theorem beXors (a b : ByteArray) (ha : a.size ≤ 140737488351232) : Fnc Try.prog 6 [.string a, .string b] [] (Ret (.bool true) []) := by
  refine fn_intro Try.func6 (by kernel_rfl) ?_
  repeat' ((conv => whnf); first
      | refine call_val (xor a b ha) ?_
      | refine call_val awake ?_
      | refine call_val (xor (xorS a b) b (by rw [xorS_size (by omega)]; exact ha)) ?_
      | refine call_val (xor01 a b (by omega) ha) ?_
      | exact fin_nil ⟨ret_bool rfl, rfl⟩
      | refine ld1_lit ?_
      | refine ldN_lit ?_
      | refine nw (fun n => ?_)
      | refine st_lit rfl ?_
      | refine need (by first | rfl | omega) ?_
      | (refine wr (fun z hz => ?_); (try rw [Int.tdiv_eq_ediv_of_nonneg (by omega)] at hz); rw [w64 (by omega) (by omega)] at hz; subst hz)
      | (refine zv (fun z hz => ?_); (try rw [Int.tmod_eq_emod_of_nonneg (by omega)] at hz); subst hz)
      | (refine ifs (fun h => ?_) (fun h => ?_) <;> (try (exfalso; first | omega | with_reducible contradiction | with_reducible exact h rfl)))
      | refine fin_nil ⟨?_, rfl⟩)
  all_goals exfalso
  all_goals first
    | exact ‹¬ xorS (xorS a b) b = a› (xorS_back (by omega))
    | exact ‹¬ xorS a b = str (xo a b)› (xorS_eq (by omega))
    | exact ‹¬ xorE (xorS a b) b = 0› (xorE_eq (by rw [xorS_size (by omega)]; omega))
    | exact ‹¬ xorE a b = 0› (xorE_eq (by omega))
    | exact ‹¬ xorE a b = 6› (xorE_ne (by omega))
    | exact ‹¬ xorS a b = _› (xorS_ne (by omega))

theorem beOrders (a b w : Int) (ha : a ≤ 9223372036854775807) (hb : b ≤ 9223372036854775807) (h0 : 0 ≤ w) (h1 : w ≤ 255) : Fnc Try.prog 7 [.int .i64 a, .int .i64 b, .int .u8 w] [] (Ret (.bool true) []) := by
  refine fn_intro Try.func7 (by kernel_rfl) ?_
  repeat' ((conv => whnf); first
      | refine call_val (put _ _) ?_
      | refine call_val awake ?_
      | exact fin_nil ⟨ret_bool rfl, rfl⟩
      | refine ld1_lit ?_
      | refine ldN_lit ?_
      | refine nw (fun n => ?_)
      | refine st_lit rfl ?_
      | refine need (by first | rfl | omega) ?_
      | (refine wr (fun z hz => ?_); (try rw [Int.tdiv_eq_ediv_of_nonneg (by omega)] at hz); rw [w64 (by omega) (by omega)] at hz; subst hz)
      | (refine zv (fun z hz => ?_); (try rw [Int.tmod_eq_emod_of_nonneg (by omega)] at hz); subst hz)
      | (refine ifs (fun h => ?_) (fun h => ?_) <;> (try (exfalso; first | omega | with_reducible contradiction | with_reducible exact h rfl)))
      | refine fin_nil ⟨?_, rfl⟩)
  all_goals exfalso
  all_goals have L := putS_less ha hb ‹putE a _ = 0› ‹putE b _ = 0›
  all_goals have E := putS_eq ha hb ‹putE a _ = 0› ‹putE b _ = 0›
  all_goals first
    | exact ‹¬ Op.bytesLess _ _ = true› (L.2 (by omega))
    | exact absurd (L.1 ‹_›) (by omega)
    | exact absurd (E.1 ‹_›) (by omega)
    | exact ‹¬ putS _ _ = putS _ _› (E.2 (by omega))

theorem ext_pre (p s : ByteArray) : (p ++ s).extract 0 p.size = p := by
  apply ByteArray.ext
  simp [ByteArray.data_append]
theorem by_pre {p s : ByteArray} {k : Int} (hk : (p.size : Int) = k) : byE (p ++ s) 0 k = 0 ∧ byS (p ++ s) 0 k = p ∧ byA (p ++ s) 0 k = k := by
  have e : (p ++ s).size = p.size + s.size := by simp
  refine ⟨?_, ?_, ?_⟩
  · rw [byE, if_neg (by omega), if_neg (by omega)]
  · rw [byS, if_neg (by omega)]
    have : (0 + k).toNat = p.size := by omega
    rw [this]; exact ext_pre p s
  · rw [byA, if_neg (by omega)]; omega
theorem nu_pre {s : ByteArray} {n k : Int} (hn : n ≤ 9223372036854775807) (h : putE n k = 0) : nuE (putS n k ++ s) 0 k = 0 ∧ nuN (putS n k ++ s) 0 k = n ∧ nuA (putS n k ++ s) 0 k = k := by
  obtain ⟨k1, k8, _, _⟩ := put_room hn h
  obtain ⟨b1, b2, b3⟩ := by_pre (s := s) (putS_size h)
  obtain ⟨g1, g2⟩ := putS_get hn h
  refine ⟨?_, ?_, ?_⟩
  · rw [nuE, if_neg (by omega), if_pos b1, b2, g1]
  · rw [nuN, if_neg (by omega), if_pos b1, b2, g2]
  · rw [nuA, if_neg (by omega), if_neg, b3]
    rw [b2, g1]; exact fun hc => hc.2 rfl
theorem str_nil : ({ data := #[] } : ByteArray) = str [] := rfl
theorem beBack (n w : Int) (s : ByteArray) (hn : n ≤ 9223372036854775807) (h0 : 0 ≤ w) (h1 : w ≤ 255) (hs : s.size ≤ 140737488351232) : Fnc Try.prog 10 [.int .i64 n, .int .u8 w, .string s] [] (Ret (.bool true) []) := by
  refine fn_intro Try.func10 (by kernel_rfl) ?_
  repeat' ((conv => whnf); first
      | refine call_val (put _ _) ?_
      | refine call_val (get _) ?_
      | refine call_val awake ?_
      | (have hz := putS_size ‹putE n _ = 0›; refine need (by rw [show IntKind.i64.max = 9223372036854775807 from rfl]; omega) ?_; refine sv (fun z hz => ?_); subst hz)
      | (refine call_fn (read _) .nil (fun e A' hq => ?_); obtain ⟨r, h1, h2⟩ := hq; subst h1; subst h2)
      | (refine call_ret (num _ _ 0 _ (by omega) (by omega) (by simp; omega)) (.cons .here .nil) ?_; obtain ⟨u1, u2, u3⟩ := nu_pre (s := s) hn ‹putE n _ = 0›; rw [u1, u2, u3])
      | refine call_ret (left _ _ _ (by omega) (by simp; omega) (by simp; omega)) (.cons .here .nil) ?_
      | exact fin_nil ⟨ret_bool rfl, rfl⟩
      | refine ld1_lit ?_
      | refine ldN_lit ?_
      | refine nw (fun n => ?_)
      | refine st_lit rfl ?_
      | refine need (by first | rfl | omega) ?_
      | (refine wr (fun z hz => ?_); (try rw [Int.tdiv_eq_ediv_of_nonneg (by omega)] at hz); rw [w64 (by omega) (by omega)] at hz; subst hz)
      | (refine zv (fun z hz => ?_); (try rw [Int.tmod_eq_emod_of_nonneg (by omega)] at hz); subst hz)
      | (refine ifs (fun h => ?_) (fun h => ?_) <;> (try (exfalso; first | omega | with_reducible contradiction | with_reducible exact h rfl)))
      | refine fin_nil ⟨?_, rfl⟩)
  all_goals exfalso
  all_goals try (have G := putS_get hn ‹putE n _ = 0›)
  all_goals try (have Z := putS_size ‹putE n _ = 0›)
  all_goals first
    | exact ‹¬ putS n _ = _› (putS_no ‹_›)
    | omega
    | exact ‹¬ getN _ = _› G.2
    | exact ‹¬ getE _ = _› G.1
    | (rw [ByteArray.size_append] at h; omega)
end Go.Proofs.Ytjlgbihllijpbaa.Be
