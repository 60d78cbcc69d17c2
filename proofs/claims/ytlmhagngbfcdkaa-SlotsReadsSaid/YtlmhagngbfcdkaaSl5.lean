/- Tables of slots: bytes. -/
import Derived.Test.YtlmhagngbfcdkaaSl4
import Derived.Test.YtlmhagngbfcdkaaBeM4
namespace Go.Proofs.Ytlmhagngbfcdkaa.Slots
open Go Ev Be
set_option linter.unusedVariables false
set_option linter.unusedSimpArgs false
set_option maxRecDepth 100000
def by1 (x : Int) : UInt8 := UInt8.ofNat x.toNat
theorem putE1 {n : Int} (h0 : 0 ≤ n) (h1 : n ≤ 255) : putE n 1 = 0 := by
  refine putE_ok (by omega) ?_
  have : ((256 : Int) ^ (1 : Int).toNat) = 256 := rfl
  rw [this]; omega
theorem bb1 (n : Nat) : bb 1 n = [UInt8.ofNat n] := by
  show [UInt8.ofNat (n / 256 ^ 0 % 256)] = _
  congr 1
  apply UInt8.toNat_inj.1
  simp
theorem putS1 {n : Int} (h0 : 0 ≤ n) (h1 : n ≤ 255) : putS n 1 = str [by1 n] := by
  rw [putS_ok (putE1 h0 h1), show (Int.toNat 1) = 1 from rfl, bb1]; rfl
theorem rowE_8 {l : List Int} (h8 : l.length ≤ 512) (h : ∀ x ∈ l, 0 ≤ x ∧ x ≤ 255) : rowE 1 l = 0 ∧ rowS 1 l = str (l.map by1) := by
  have hf : ∀ l : List Int, (∀ x ∈ l, 0 ≤ x ∧ x ≤ 255) → fe 1 l = 0 ∧ cat 1 l = l.map by1 := by
    intro l
    induction l with
    | nil => intro _; exact ⟨rfl, rfl⟩
    | cons x l ih =>
      intro h
      obtain ⟨i1, i2⟩ := ih (fun y hy => h y (List.mem_cons_of_mem _ hy))
      have hx := h x List.mem_cons_self
      refine ⟨by rw [fe, if_pos (putE1 hx.1 hx.2)]; exact i1, ?_⟩
      unfold cat at i2 ⊢
      rw [List.flatMap_cons, i2, putS1 hx.1 hx.2]
      rfl
  obtain ⟨i1, i2⟩ := hf l h
  have e : rowE 1 l = 0 := by unfold rowE; rw [if_neg (by omega), if_neg (by omega), i1]
  refine ⟨e, ?_⟩
  unfold rowS
  rw [if_pos e, i2]
/-- A slot's four numbers. -/
def sNum (x : Sl10) : List Int := [x.g + 1, biX x 4, x.lv, 0]
def rowI (s : Nat → Sl10) : Nat → List Int
  | 0 => []
  | i + 1 => rowI s i ++ sNum (s i)
theorem rowI_len (s : Nat → Sl10) : ∀ i, (rowI s i).length = 4 * i
  | 0 => rfl
  | i + 1 => by rw [rowI, List.length_append, rowI_len s i]; rfl
def okS (x : Sl10) : Prop := -1 ≤ x.g ∧ x.g ≤ 15 ∧ 0 ≤ x.lv ∧ x.lv ≤ 3
theorem biX_bd (x : Sl10) : 0 ≤ biX x 4 ∧ biX x 4 ≤ 255 := bu_bd _ _ _ _ _ _ _ _ 4 (by omega)
theorem rowI_bd {s : Nat → Sl10} : ∀ {i : Nat}, (∀ j, j < i → okS (s j)) → ∀ x ∈ rowI s i, 0 ≤ x ∧ x ≤ 255
  | 0, _, x, hx => by cases hx
  | i + 1, h, x, hx => by
    rw [rowI] at hx
    rcases List.mem_append.1 hx with hx | hx
    · exact rowI_bd (fun j hj => h j (by omega)) x hx
    · have h1 := h i (by omega)
      have h2 := biX_bd (s i)
      unfold okS at h1
      simp only [sNum, List.mem_cons, List.not_mem_nil, or_false] at hx
      rcases hx with rfl | rfl | rfl | rfl <;> omega
theorem pad_any {l : List UInt8} (h : l.length ≤ 48) : padE (str l) 48 = 0 ∧ padS (str l) 48 = str (l ++ List.replicate (48 - l.length) 0) := by
  have hE : padE (str l) 48 = 0 := by
    unfold padE
    rw [if_neg (by omega), if_neg (by rw [Ev.str_size]; omega)]
  refine ⟨hE, ?_⟩
  unfold padS full
  rw [if_pos hE]
  by_cases h1 : (48 : Int) ≤ (str l).size
  · rw [if_pos h1]
    rw [Ev.str_size] at h1
    have : 48 - l.length = 0 := by omega
    rw [this]; simp
  · rw [if_neg h1, Ev.str_size, str_append]
    congr 3
    omega
def sBy (s : Nat → Sl10) : ByteArray := str ((rowI s 8).map by1 ++ List.replicate 16 0)
theorem ints_next (s : Nat → Sl10) (i : Nat) : ints (rowI s (i + 1)) = ints (rowI s i) ++ [.int .i64 ((s i).g + 1), .int .i64 (bu ((s i).v 0) ((s i).v 1) ((s i).v 2) ((s i).v 3) ((s i).d 0) ((s i).d 1) ((s i).d 2) ((s i).d 3) 4), .int .i64 (s i).lv, .int .i64 0] := by
  show List.map _ (rowI s i ++ sNum (s i)) = _
  rw [List.map_append]
  rfl
attribute [local irreducible] rl tc bu biX rowI rowE rowS padE padS convert Builtin.copy_ Builtin.append_ Instr.makeSlice
set_option maxHeartbeats 2000000 in
theorem bytes (r N : Nat) (s : Nat → Sl10) (hW : ∀ j, j < 8 → okS (s j)) : Fnc Try.prog 19 [pt r] [tB r N s] (Ret (.string (sBy s)) [tB r N s]) := by
  have hre := rowE_8 (l := rowI s 8) (by rw [rowI_len]; omega) (rowI_bd hW)
  have hpad := pad_any (l := (rowI s 8).map by1) (by rw [List.length_map, rowI_len]; omega)
  rw [List.length_map, rowI_len] at hpad
  have hlen := rowI_len s 8
  refine fn_intro Try.func19 (by kernel_rfl) ?_
  repeat' ((conv => whnf); first
      | refine ldN_row (rl 8 s) (by rw [rl_len]; exact tc_all N s) (rl_len 8 s) ?_
      | refine loop_rule [14, 3] (fun vs M m => ∃ (i : Nat) (R : Own), vs = [.int .i64 i, R.val (4 * i)] ∧ i ≤ 8 ∧ R.ok 1 (4 * i) (ints (rowI s i)) ∧ m = 8 - i ∧ M = R.blk 3 (ints (rowI s i)) ++ [tB r N s]) rfl ?_ ?_
      | refine ld1_lit ?_
      | refine ldN_lit ?_
      | refine nw (fun n => ?_)
      | refine st_lit rfl ?_
      | refine need (by first | rfl | omega) ?_
      | (refine wr (fun z hz => ?_); (try rw [Int.tdiv_eq_ediv_of_nonneg (by omega)] at hz); rw [w64 (by omega) (by omega)] at hz; subst hz)
      | (refine zv (fun z hz => ?_); (try rw [Int.tmod_eq_emod_of_nonneg (by omega)] at hz); subst hz)
      | (refine ifs (fun h => ?_) (fun h => ?_) <;> (try (exfalso; first | omega | with_reducible contradiction | with_reducible exact h rfl))))
  · exact fin_all ⟨_, 0, .nil, rfl, by omega, ⟨by rw [List.length_map, rowI_len], rfl⟩, rfl, rfl⟩
  rintro vs junk M' m ⟨i, R, rfl, hi, hR, rfl, rfl⟩
  have hL := rowI_len s i
  repeat' ((conv => whnf); first
      | refine draw_any 7 [(0, true), (1, true), (6, true), (2, true), (3, true), (4, true), (7, true), (5, false), (8, false), (9, false), (10, true)] _ rfl (by kernel_rfl) (kept1 (n := n) ?_)
      | refine kept1 ?_
      | refine fld1 ?_
      | refine fldN ?_
      | (have hw := hW i (by omega); unfold okS at hw; refine wr (fun z hz => ?_); rw [w64 (by omega) (by omega)] at hz; subst hz)
      | refine call_val (bits' _ _ _ _ _ _ _ _ _ _) ?_
      | (refine nv (fun z hz => ?_); (try simp at hz); replace hz := hz.symm; subst hz)
      | refine part_of' (l := rl 8 s) (q := i * 10) (m := 10) (r := sc (s i)) (rl_part (by omega)) rfl (by omega) ?_
      | refine app_at (S := R) (n := 4 * i) (e := 3) (xs := ints (rowI s i)) (news := [_, _, _, _]) rfl rfl rfl rfl rfl hR rfl (one4 rfl rfl rfl rfl) (by show (4 * i + 4) * 8 ≤ _; omega) (by omega) (Ev.cells_from rfl) (fun R' hR' => ?_)
      | refine ld1_lit ?_
      | refine ldN_lit ?_
      | refine nw (fun n => ?_)
      | refine st_lit rfl ?_
      | refine need (by first | rfl | omega) ?_
      | (refine wr (fun z hz => ?_); (try rw [Int.tdiv_eq_ediv_of_nonneg (by omega)] at hz); rw [w64 (by omega) (by omega)] at hz; subst hz)
      | (refine zv (fun z hz => ?_); (try rw [Int.tmod_eq_emod_of_nonneg (by omega)] at hz); subst hz)
      | (refine ifs (fun h => ?_) (fun h => ?_) <;> (try (exfalso; first | omega | with_reducible contradiction | with_reducible exact h rfl))))
  all_goals (conv => whnf)
  · refine ⟨rfl, fin_drop (fin_drop (fin_all ⟨8 - (i + 1), by omega, i + 1, R', rfl, by omega, ?_, rfl, ?_⟩))⟩
    · rw [ints_next]; exact hR'
    · rw [ints_next]
  · obtain rfl : i = 8 := by omega
    rcases R with _ | ⟨g, cap, junk⟩
    · exfalso
      have := hR.2
      simp at this
    · have hrow := row 1 (rowI s 8) (Sl.at_ g 0 cap) trivial (by rw [hlen]; omega)
      rw [hlen, hre.1, hre.2] at hrow
      refine call_rowro hrow ⟨junk, rfl⟩ ?_
      repeat' ((conv => whnf); first
          | (refine call_val (pad _ 48 (by rw [Ev.str_size, List.length_map, hlen]; omega)) ?_; rw [hpad.1, hpad.2])
          | exact fin_look r ⟨rfl, rfl⟩
          | refine ld1_lit ?_
          | refine ldN_lit ?_
          | refine nw (fun n => ?_)
          | refine st_lit rfl ?_
          | refine need (by first | rfl | omega) ?_
          | (refine wr (fun z hz => ?_); (try rw [Int.tdiv_eq_ediv_of_nonneg (by omega)] at hz); rw [w64 (by omega) (by omega)] at hz; subst hz)
          | (refine zv (fun z hz => ?_); (try rw [Int.tmod_eq_emod_of_nonneg (by omega)] at hz); subst hz)
          | (refine ifs (fun h => ?_) (fun h => ?_) <;> (try (exfalso; first | omega | with_reducible contradiction | with_reducible exact h rfl))))
end Go.Proofs.Ytlmhagngbfcdkaa.Slots
