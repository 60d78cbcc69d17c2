/- Registers laid: plain laws. -/
import Derived.Test.YtohefdmfnllehaaGreatAf15
import Derived.Test.YtohefdmfnllehaaGreatAf11
import Derived.Test.YtohefdmfnllehaaGreatProg
import Derived.Test.YtohefdmfnllehaaGreatAf14
import Derived.Test.YtohefdmfnllehaaGreatAf4
import Derived.KernelRfl
import Derived.Test.YtohefdmfnllehaaGreatAf5
namespace Go.Proofs.YtohefdmfnllehaaGreat.Reg
open Go Ev Be Geom
set_option linter.unusedVariables false
set_option linter.unusedSimpArgs false
set_option maxRecDepth 100000

theorem putE1 {n : Int} (h0 : 0 ≤ n) (h1 : n ≤ 255) : putE n 1 = 0 := by
  refine putE_ok (by omega) ?_
  have : ((256 : Int) ^ (1 : Int).toNat) = 256 := rfl
  rw [this]; omega
theorem putE4 {n : Int} (h0 : 0 ≤ n) (h1 : n ≤ 4294967295) : putE n 4 = 0 := by
  refine putE_ok (by omega) ?_
  have : ((256 : Int) ^ (4 : Int).toNat) = 4294967296 := rfl
  rw [this]; omega
theorem bb1 (n : Nat) : bb 1 n = [UInt8.ofNat n] := by
  show [UInt8.ofNat (n / 256 ^ 0 % 256)] = _
  congr 1
  apply UInt8.toNat_inj.1
  simp
theorem putS1 {n : Int} (h0 : 0 ≤ n) (h1 : n ≤ 255) : putS n 1 = str [by1 n] := by
  rw [putS_ok (putE1 h0 h1), show (Int.toNat 1) = 1 from rfl, bb1]; rfl
theorem rowE_8 {l : List Int} (h8 : l.length ≤ 512) (h : ∀ x ∈ l, 0 ≤ x ∧ x ≤ 255) : rowE 1 l = 0 ∧ rowS 1 l = str (l.map by1) := by
  have hf : ∀ l : List Int, (∀ x ∈ l, 0 ≤ x ∧ x ≤ 255) → fe 1 l = 0 ∧ cat 1 l = l.map by1 := by
    intro l
    induction l with
    | nil => intro _; exact ⟨rfl, rfl⟩
    | cons x l ih =>
      intro h
      obtain ⟨i1, i2⟩ := ih (fun y hy => h y (List.mem_cons_of_mem _ hy))
      have hx := h x List.mem_cons_self
      refine ⟨by rw [fe, if_pos (putE1 hx.1 hx.2)]; exact i1, ?_⟩
      unfold cat at i2 ⊢
      rw [List.flatMap_cons, i2, putS1 hx.1 hx.2]
      rfl
  obtain ⟨i1, i2⟩ := hf l h
  have e : rowE 1 l = 0 := by unfold rowE; rw [if_neg (by omega), if_neg (by omega), i1]
  refine ⟨e, ?_⟩
  unfold rowS
  rw [if_pos e, i2]
def atI (t : Bool) : Int := if t then 1 else 0
section
variable {a b : Dg} {e iv a0 a1 u0 u1 d m : Int} {t : Bool}
theorem row_reg (h : RR b e iv a0 a1 u0 u1 d m t) : rowE 1 [a0, u0, a1, u1, d, m, atI t, 103] = 0 ∧ rowS 1 [a0, u0, a1, u1, d, m, atI t, 103] = str [by1 a0, by1 u0, by1 a1, by1 u1, by1 d, by1 m, (if t then 1 else 0), 103] := by
  have := rowE_8 (l := [a0, u0, a1, u1, d, m, atI t, 103]) (by simp) (by
    intro x hx
    have h1 := h.a00; have h2 := h.a01; have h3 := h.a10; have h4 := h.a11; have h5 := h.u00; have h6 := h.u01; have h7 := h.u10; have h8 := h.u11; have h9 := h.d0; have h10 := h.d1; have h11 := h.m0; have h12 := h.m1
    simp only [List.mem_cons, List.not_mem_nil, or_false] at hx
    have ht : atI t = 0 ∨ atI t = 1 := by cases t; exact .inl rfl; exact .inr rfl
    omega)
  refine ⟨this.1, this.2.trans ?_⟩
  congr 1
  cases t <;> rfl
theorem putS_e (h : RR b e iv a0 a1 u0 u1 d m t) : putS e 4 = str (bb 4 e.toNat) := putS_ok (putE4 h.e0 h.e1)
theorem putS_iv (h : RR b e iv a0 a1 u0 u1 d m t) : putS iv 8 = str (bb 8 iv.toNat) := putS_ok (putE8 h.i0)
theorem pad_reg (h : RR b e iv a0 a1 u0 u1 d m t) : padE (str (dl a) ++ str (dl b) ++ putS e 4 ++ putS iv 8 ++ str [by1 a0, by1 u0, by1 a1, by1 u1, by1 d, by1 m, (if t then 1 else 0), 103]) 96 = 0 ∧
    padS (str (dl a) ++ str (dl b) ++ putS e 4 ++ putS iv 8 ++ str [by1 a0, by1 u0, by1 a1, by1 u1, by1 d, by1 m, (if t then 1 else 0), 103]) 96 = str (layL a b e iv a0 a1 u0 u1 d m t) := by
  rw [putS_e h, putS_iv h]
  simp only [str_append]
  generalize hl : dl a ++ dl b ++ bb 4 e.toNat ++ bb 8 iv.toNat ++ [by1 a0, by1 u0, by1 a1, by1 u1, by1 d, by1 m, (if t then 1 else 0), 103] = l
  have hlen : l.length = 84 := by rw [← hl]; rfl
  have hE : padE (str l) 96 = 0 := by
    unfold padE
    rw [if_neg (by omega), if_neg (by rw [Ev.str_size]; omega)]
  refine ⟨hE, ?_⟩
  unfold padS full
  rw [if_pos hE, if_neg (by rw [Ev.str_size]; omega), Ev.str_size, hlen, str_append, ← hl]
  rfl
end
end Go.Proofs.YtohefdmfnllehaaGreat.Reg
/- The laws of layer 9 that only reckon: their Go functions return true. -/
namespace Go.Proofs.YtohefdmfnllehaaGreat.Geom
open Go Ev
set_option linter.unusedVariables false
set_option maxRecDepth 100000
set_option linter.unusedSimpArgs false

theorem right8 : Right 8 2 100 := by decide
end Go.Proofs.YtohefdmfnllehaaGreat.Geom
/- be.Row. -/
namespace Go.Proofs.YtohefdmfnllehaaGreat.Be
open Go Ev
set_option linter.unusedVariables false
set_option maxRecDepth 100000
set_option linter.unusedSimpArgs false

abbrev ints (l : List Int) : List Value := l.map (.int .i64)
theorem row_no {w e : Int} {l : List Int} {A : List Blk} (h : rowE w l = e) (h0 : e ≠ 0) : Ret (.tuple #[.string (rowS w l), .int .i64 (rowE w l)]) A (.returned (oneOrMany [.string { data := #[] }, .int .i64 e])) A := by
  have : rowS w l = str [] := if_neg (by omega)
  rw [this, h]; exact ⟨rfl, rfl⟩
theorem row_bad {w x : Int} {l : List Int} {i : Nat} {A : List Blk} (h1 : ¬ 512 < l.length) (h2 : ¬ (w < 1 ∨ 8 < w)) (hx : l[i]? = some x) (hf : fe w (l.take i) = 0) (h : ¬ putE x w = 0) :
    Ret (.tuple #[.string (rowS w l), .int .i64 (rowE w l)]) A (.returned (oneOrMany [.string { data := #[] }, .int .i64 (putE x w)])) A := by
  have e := fe_take hx hf
  refine row_no ?_ h
  rw [rowE, if_neg h1, if_neg h2, fe_stop (i := i + 1) (by rw [e]; exact h), e]
theorem row_good {w : Int} {l : List Int} {i : Nat} {A : List Blk} (h1 : ¬ 512 < l.length) (h2 : ¬ (w < 1 ∨ 8 < w)) (hi : l.length ≤ i) (hf : fe w (l.take i) = 0) :
    Ret (.tuple #[.string (rowS w l), .int .i64 (rowE w l)]) A (.returned (oneOrMany [.string (str (cat w (l.take i))), .int .i64 0])) A := by
  rw [List.take_of_length_le hi] at *
  have e : rowE w l = 0 := by rw [rowE, if_neg h1, if_neg h2, hf]
  have e2 : rowS w l = str (cat w l) := if_pos e
  rw [e2, e]; exact ⟨rfl, rfl⟩
theorem row (w : Int) (l : List Int) (S : Sl) (hS : S.ok l.length) (hl : l.length ≤ 9223372036854775807) :
    Fnc Tryz.prog 118 [.int .i64 w, S.val l.length] (S.blk (ints l)) (Ret (.tuple #[.string (rowS w l), .int .i64 (rowE w l)]) (S.blk (ints l))) := by
  refine fn_intro Tryz.func118 (by kernel_rfl) ?_
  repeat' ((conv => whnf); first
      | refine ld1_lit ?_
      | refine ldN_lit ?_
      | refine nw (fun n => ?_)
      | refine bld ?_
      | refine st_lit rfl ?_
      | refine need (by first | rfl | omega) ?_
      | (refine wr (fun z hz => ?_); (try rw [Int.tdiv_eq_ediv_of_nonneg (by omega)] at hz); rw [w64 (by omega) (by omega)] at hz; subst hz)
      | (refine zv (fun z hz => ?_); (try rw [Int.tmod_eq_emod_of_nonneg (by omega)] at hz); subst hz)
      | (refine ifs (fun h => ?_) (fun h => ?_) <;> (try (exfalso; first | omega | with_reducible contradiction | with_reducible exact h rfl)))
      | refine fin_nil ⟨?_, rfl⟩)
  rotate_right
  · rename_i b0 h1 h2
    refine loop_rule [23] (fun vs M m => ∃ (i : Nat) (R : Own), vs = [.int .i64 i] ∧ i ≤ l.length ∧ fe w (l.take i) = 0 ∧ R.ok 1 (cat w (l.take i)).length (u8s (cat w (l.take i))) ∧ m = l.length - i ∧
      M = ⟨n, .cells [R.val (cat w (l.take i)).length] 100⟩ :: ⟨b0, .cells [.int .i64 w] 3⟩ :: (R.blk 5 (u8s (cat w (l.take i))) ++ S.blk (ints l))) rfl ?_ ?_
    · exact fin_all ⟨_, 0, .nil, rfl, by omega, rfl, ⟨rfl, rfl⟩, rfl, rfl⟩
    rintro vs junk M' m ⟨i, R, rfl, hi, hf, hR, rfl, rfl⟩
    repeat' ((conv => whnf); first
        | (rcases S with ⟨p, c⟩ | ⟨b, off, cap⟩; (exfalso; have hS : l.length = 0 := hS; omega))
        | (refine need (by constructor <;> omega) ?_)
        | (refine nv (fun z hz => ?_); simp at hz; replace hz := hz.symm; subst hz)
        | (obtain ⟨x, hx⟩ : ∃ x, l[i]? = some x := ⟨l[i]'(by omega), List.getElem?_eq_getElem (by omega)⟩; refine ld1_ro (o := off) (cs := ints l) (j := i) rfl (by simp only [List.getElem?_map, hx]; rfl) ?_)
        | refine call_in Tryz.func193 (by kernel_rfl) ?_
        | refine call_val (put _ _) ?_
        | refine b2s_own (t := 5) (l := cat w (l.take i)) hR rfl rfl rfl ?_
        | refine app_str (e := 5) (xs := u8s (cat w (l.take i))) rfl rfl rfl rfl rfl rfl hR (by have := cat_le w (l.take i); have := putS_le (x := x) (w := w); rw [List.length_take] at *; omega) (fun R' hR' => ?_)
        | exact fin_drop (fin_drop (fin_right (fin_all (row_bad (by omega) (by omega) hx hf ‹_›))))
        | exact fin_drop (fin_drop (fin_right (fin_all (row_good (i := i) (by omega) (by omega) (by omega) hf))))
        | refine fin_all ?_
        | refine ld1_lit ?_
        | refine ldN_lit ?_
        | refine nw (fun n => ?_)
        | refine bld ?_
        | refine st_lit rfl ?_
        | refine need (by first | rfl | omega) ?_
        | (refine wr (fun z hz => ?_); (try rw [Int.tdiv_eq_ediv_of_nonneg (by omega)] at hz); rw [w64 (by omega) (by omega)] at hz; subst hz)
        | (refine zv (fun z hz => ?_); (try rw [Int.tmod_eq_emod_of_nonneg (by omega)] at hz); subst hz)
        | (refine ifs (fun h => ?_) (fun h => ?_) <;> (try (exfalso; first | omega | with_reducible contradiction | with_reducible exact h rfl))))
    have ec : cat w (l.take (i + 1)) = cat w (l.take i) ++ (putS x w).data.toList := by
      rw [List.take_add_one, hx]; exact cat_snoc w _ x
    have el : (cat w (l.take (i + 1))).length = (cat w (l.take i)).length + (putS x w).size := by
      rw [ec, List.length_append]; rfl
    have eu : u8s (cat w (l.take (i + 1))) = u8s (cat w (l.take i)) ++ u8s (putS x w).data.toList := by rw [ec, u8s_append]
    (conv => whnf)
    refine ⟨rfl, fin_all ⟨l.length - (i + 1), by omega, i + 1, R', rfl, by omega, by rw [fe_take hx hf]; exact h, by rw [el, eu]; exact hR', rfl, ?_⟩⟩
    rw [el, eu]
  all_goals (conv => whnf)
  · exact fin_drop (fin_all (row_no (if_pos (by omega)) (by omega)))
  · exact fin_drop (fin_all (row_no (by rw [rowE, if_neg (by omega), if_pos (by omega)]) (by omega)))
  · exact fin_drop (fin_all (row_no (by rw [rowE, if_neg (by omega), if_pos (by omega)]) (by omega)))
end Go.Proofs.YtohefdmfnllehaaGreat.Be
/- The law GeomSupers: the first block's bytes. -/
namespace Go.Proofs.YtohefdmfnllehaaGreat.Geom
open Go Ev Be
set_option linter.unusedVariables false
set_option linter.unusedSimpArgs false
set_option maxRecDepth 100000

def superS (b s m : Int) (c : ByteArray) : ByteArray := if Right b s m ∧ c.size = 32 then supS b s m c else { data := #[] }
def superE (b s m : Int) (c : ByteArray) : Int := if Right b s m ∧ c.size = 32 then 0 else 2
theorem super_no {b s m : Int} {c : ByteArray} (h : ¬ (Right b s m ∧ c.size = 32)) : Ending.returned (oneOrMany [.string { data := #[] }, .int .i64 2]) = .returned (.tuple #[.string (superS b s m c), .int .i64 (superE b s m c)]) := by
  have e1 : superS b s m c = { data := #[] } := if_neg h
  have e2 : superE b s m c = 2 := if_neg h
  rw [e1, e2]; rfl
theorem super_ok {b s m : Int} {c : ByteArray} (h : Right b s m) (h' : c.size = 32) : Ending.returned (oneOrMany [.string (str (headL b s m) ++ c), .int .i64 0]) = .returned (.tuple #[.string (superS b s m c), .int .i64 (superE b s m c)]) := by
  have e1 : superS b s m c = supS b s m c := if_pos ⟨h, h'⟩
  have e2 : superE b s m c = 0 := if_pos ⟨h, h'⟩
  rw [e1, e2]; rfl
attribute [local irreducible] rowE rowS padE padS putE putS

theorem size4 : ({ data := #[99, 108, 114, 116] } : ByteArray).size = 4 := rfl
theorem super (b s m : Int) (c : ByteArray) (hc : c.size ≤ 140737488351232) : Fnc Tryz.prog 128 [.agg #[.int .i64 b, .int .i64 s, .int .i64 m], .string c] [] (Ret (.tuple #[.string (superS b s m c), .int .i64 (superE b s m c)]) []) := by
  refine fn_intro Tryz.func128 (by kernel_rfl) ?_
  repeat' ((conv => whnf); first
      | refine call_if (check _ _ _) (fun h => ?_) (fun h => ?_)
      | (have hr := row_head ‹Right b s m›; refine call_lit (row 2 [b, s] (Sl.at_ _ 0 2) trivial (by simp)) ?_; rw [hr.1, hr.2])
      | refine call_val (put _ _) ?_
      | (have p1 := putS_le (x := b) (w := 2); have p2 := putS_le (x := s) (w := 2); have p3 := putS_le (x := m) (w := 8); refine need (by rw [show IntKind.i64.max = 9223372036854775807 from rfl]; simp only [ByteArray.size_append, size4, str_size, headL_length]; omega) ?_; refine sv (fun z hz => ?_); subst hz)
      | (have p1 := putS_le (x := b) (w := 2); have p2 := putS_le (x := s) (w := 2); have p3 := putS_le (x := m) (w := 8); have hp := head_pad ‹Right b s m›; refine call_val (pad _ 32 (by simp only [ByteArray.size_append, size4]; omega)) ?_; rw [hp.1, hp.2])
      | (refine need (by rw [show IntKind.i64.max = 9223372036854775807 from rfl, str_size, headL_length]; omega) ?_; refine sv (fun z hz => ?_); subst hz)
      | refine ld1_lit ?_
      | refine ldN_lit ?_
      | refine nw (fun n => ?_)
      | refine bld ?_
      | refine st_lit rfl ?_
      | refine need (by first | rfl | omega) ?_
      | (refine wr (fun z hz => ?_); (try rw [Int.tdiv_eq_ediv_of_nonneg (by omega)] at hz); rw [w64 (by omega) (by omega)] at hz; subst hz)
      | (refine zv (fun z hz => ?_); (try rw [Int.tmod_eq_emod_of_nonneg (by omega)] at hz); subst hz)
      | (refine ifs (fun h => ?_) (fun h => ?_) <;> (try (exfalso; first | omega | with_reducible contradiction | with_reducible exact h rfl)))
      | refine fin_nil ⟨?_, rfl⟩)
  all_goals first
    | exact super_ok ‹Right b s m› (by omega)
    | exact super_no (fun hc => ‹¬ Right b s m› hc.1)
    | exact super_no (by omega)
    | skip

theorem sup_eq {b s m : Int} {c : ByteArray} (h : Right b s m) : supS b s m c = ({ data := #[99, 108, 114, 116] } : ByteArray) ++ putS b 2 ++ putS s 2 ++ putS m 8 ++ str (List.replicate 16 0) ++ c := by
  rw [putS_ok (right_b h), putS_ok (right_s h), putS_ok (right_m h), show ({ data := #[99, 108, 114, 116] } : ByteArray) = str [99, 108, 114, 116] from rfl]
  simp only [str_append]
  rfl
theorem super_iff {s : ByteArray} (h : s.size = 64) : readOk s ↔ superE (gB s) (gS s) (gM s) (s.extract 32 64) = 0 ∧ superS (gB s) (gS s) (gM s) (s.extract 32 64) = s := by
  unfold readOk superE superS
  have hz : (s.extract 32 64).size = 32 := by rw [ByteArray.size_extract]; omega
  by_cases hr : Right (gB s) (gS s) (gM s)
  · rw [if_pos ⟨hr, hz⟩, if_pos ⟨hr, hz⟩]; simp [h, hr]
  · rw [if_neg (fun hc => hr hc.1), if_neg (fun hc => hr hc.1)]; simp [hr]
theorem read_no {s : ByteArray} (h : ¬ readOk s) : Ending.returned (oneOrMany [.agg #[.int .i64 0, .int .i64 0, .int .i64 0], .string { data := #[] }, .int .i64 6]) =
    .returned (if readOk s then .tuple #[.agg #[.int .i64 (gB s), .int .i64 (gS s), .int .i64 (gM s)], .string (s.extract 32 64), .int .i64 0] else .tuple #[.agg #[.int .i64 0, .int .i64 0, .int .i64 0], .string { data := #[] }, .int .i64 6]) := by rw [if_neg h]; rfl
theorem read_ok {s : ByteArray} (h : readOk s) : Ending.returned (oneOrMany [.agg #[.int .i64 (gB s), .int .i64 (gS s), .int .i64 (gM s)], .string (s.extract 32 64), .int .i64 0]) =
    .returned (if readOk s then .tuple #[.agg #[.int .i64 (gB s), .int .i64 (gS s), .int .i64 (gM s)], .string (s.extract 32 64), .int .i64 0] else .tuple #[.agg #[.int .i64 0, .int .i64 0, .int .i64 0], .string { data := #[] }, .int .i64 6]) := by rw [if_pos h]; rfl
attribute [local irreducible] superS superE gB gS gM nuN nuE nuA
theorem gread (s : ByteArray) (hs : s.size ≤ 140737488351232) : Fnc Tryz.prog 230 [.string s] []
    (Ret (if readOk s then .tuple #[.agg #[.int .i64 (gB s), .int .i64 (gS s), .int .i64 (gM s)], .string (s.extract 32 64), .int .i64 0] else .tuple #[.agg #[.int .i64 0, .int .i64 0, .int .i64 0], .string { data := #[] }, .int .i64 6]) []) := by
  refine fn_intro Tryz.func230 (by kernel_rfl) ?_
  repeat' ((conv => whnf); first
      | (refine sv (fun z hz => ?_); (first | (rw [show (s.size : Int).toNat = 64 by omega] at hz; first | (change z = s.extract 4 64 at hz) | (change z = s.extract 32 64 at hz)) | skip); subst hz)
      | (refine call_fn (read _) .nil (fun e A' hq => ?_); obtain ⟨r, h1, h2⟩ := hq; subst h1; subst h2; have h64 : s.size = 64 := (by omega); obtain ⟨u1, u2, u3, u4, u5⟩ := read_nums h64; have h60 : (s.extract 4 64).size = 60 := by rw [ByteArray.size_extract]; omega)
      | (refine call_ret (num _ _ 0 2 (by omega) (by omega) (by omega)) (.cons (.there .here) .nil) ?_; rw [u1, u2])
      | (refine call_ret (num _ _ 2 2 (by omega) (by omega) (by omega)) (.cons .here .nil) ?_; rw [u3, u4])
      | (refine call_ret (num _ _ 4 8 (by omega) (by omega) (by omega)) (.cons .here .nil) ?_; rw [u5])
      | refine ld1_lit ?_
      | refine ldN_lit ?_
      | refine nw (fun n => ?_)
      | refine bld ?_
      | refine st_lit rfl ?_
      | refine need (by first | rfl | omega) ?_
      | (refine wr (fun z hz => ?_); (try rw [Int.tdiv_eq_ediv_of_nonneg (by omega)] at hz); rw [w64 (by omega) (by omega)] at hz; subst hz)
      | (refine zv (fun z hz => ?_); (try rw [Int.tmod_eq_emod_of_nonneg (by omega)] at hz); subst hz)
      | (refine ifs (fun h => ?_) (fun h => ?_) <;> (try (exfalso; first | omega | with_reducible contradiction | with_reducible exact h rfl)))
      | refine fin_nil ⟨?_, rfl⟩)
  refine draw_quiet rfl (by kernel_rfl) ?_
  repeat' ((conv => whnf); first
      | (refine sv (fun z hz => ?_); (first | (rw [show (s.size : Int).toNat = 64 by omega] at hz; first | (change z = s.extract 4 64 at hz) | (change z = s.extract 32 64 at hz)) | skip); subst hz)
      | refine draw_any 12 [(1, true), (2, true), (0, false), (3, false), (4, true), (5, true)] [] rfl (by kernel_rfl) ?_
      | refine kept_nil ?_
      | refine qcall_val (super _ _ _ _ (by rw [ByteArray.size_extract]; omega)) ?_
      | refine qld1_lit ?_
      | refine qldN_lit ?_
      | refine ld1_lit ?_
      | refine ldN_lit ?_
      | refine nw (fun n => ?_)
      | refine bld ?_
      | refine st_lit rfl ?_
      | refine need (by first | rfl | omega) ?_
      | (refine wr (fun z hz => ?_); (try rw [Int.tdiv_eq_ediv_of_nonneg (by omega)] at hz); rw [w64 (by omega) (by omega)] at hz; subst hz)
      | (refine zv (fun z hz => ?_); (try rw [Int.tmod_eq_emod_of_nonneg (by omega)] at hz); subst hz)
      | (refine ifs (fun h => ?_) (fun h => ?_) <;> (try (exfalso; first | omega | with_reducible contradiction | with_reducible exact h rfl)))
      | refine fin_nil ⟨?_, rfl⟩)
  all_goals (conv => whnf)
  all_goals first
    | exact read_no (fun hc => by have := hc.1; omega)
    | exact read_no (fun hc => ‹¬ s.extract _ _ = _› (read_iff.1 hc).2.1)
    | exact read_no (fun hc => ‹¬ _› ((super_iff h64).1 hc).1)
    | exact read_no (fun hc => ‹¬ superS _ _ _ _ = _› ((super_iff h64).1 hc).2)
    | exact read_ok ((super_iff h64).2 ⟨‹_›, ‹_›⟩)
    | skip
end Go.Proofs.YtohefdmfnllehaaGreat.Geom
/- Package reg: whether a register may be, and its bytes. -/
namespace Go.Proofs.YtohefdmfnllehaaGreat.Reg
open Go Ev Be Geom
set_option linter.unusedVariables false
set_option linter.unusedSimpArgs false
set_option maxRecDepth 100000

theorem within (a hi : Int) : Fnc Tryz.prog 185 [.int .i64 a, .int .i64 hi] [] (Ret (.bool (decide (0 ≤ a ∧ a ≤ hi))) []) := by
  refine fn_intro Tryz.func185 (by kernel_rfl) ?_
  repeat' ((conv => whnf); first
      | refine ld1_lit ?_
      | refine ldN_lit ?_
      | refine nw (fun n => ?_)
      | refine bld ?_
      | refine st_lit rfl ?_
      | refine need (by first | rfl | omega) ?_
      | (refine wr (fun z hz => ?_); (try rw [Int.tdiv_eq_ediv_of_nonneg (by omega)] at hz); rw [w64 (by omega) (by omega)] at hz; subst hz)
      | (refine zv (fun z hz => ?_); (try rw [Int.tmod_eq_emod_of_nonneg (by omega)] at hz); subst hz)
      | (refine ifs (fun h => ?_) (fun h => ?_) <;> (try (exfalso; first | omega | with_reducible contradiction | with_reducible exact h rfl)))
      | refine fin_nil ⟨?_, rfl⟩)
  all_goals exact fin_bool (by simp; omega)
theorem kDg : kindsOf Tryz.prog 3 57 = some (List.replicate 32 (.int .u8)) := by kernel_rfl
theorem fDg (a : Dg) : Fits (List.replicate 32 (.int .u8)) (dV a) := by
  repeat' first | exact trivial | (refine ⟨⟨_, rfl⟩, ?_⟩)
theorem fZ : Fits (List.replicate 32 (.int .u8)) zV := by
  repeat' first | exact trivial | (refine ⟨⟨_, rfl⟩, ?_⟩)
open Classical in
/-- What Check answers. -/
noncomputable def ckE (b : Dg) (e iv a0 a1 u0 u1 d m : Int) (t : Bool) : Int := if RR b e iv a0 a1 u0 u1 d m t then 0 else 2
theorem ck_0 {b : Dg} {e iv a0 a1 u0 u1 d m : Int} {t : Bool} (h : RR b e iv a0 a1 u0 u1 d m t) : ckE b e iv a0 a1 u0 u1 d m t = 0 := if_pos h
theorem ck_2 {b : Dg} {e iv a0 a1 u0 u1 d m : Int} {t : Bool} (h : ¬ RR b e iv a0 a1 u0 u1 d m t) : ckE b e iv a0 a1 u0 u1 d m t = 2 := if_neg h
set_option maxHeartbeats 4000000 in
theorem check (a b : Dg) (e iv a0 a1 u0 u1 d m : Int) (t : Bool) : Fnc Tryz.prog 104 [.agg (regL a b e iv a0 a1 u0 u1 d m t).toArray] [] (Ret (.int .i64 (ckE b e iv a0 a1 u0 u1 d m t)) []) := by
  cases t
  all_goals refine fn_intro Tryz.func104 (by kernel_rfl) ?_
  all_goals repeat' ((conv => whnf); first
      | refine call_bool (within _ _) (fun h => ?_) (fun h => ?_)
      | refine loop_n 3 ?_
      | refine agg_eql kDg (by decide) rfl rfl rfl rfl (by kernel_rfl) (fDg _) fZ ?_
      | (refine nv (fun z hz => ?_); subst hz)
      | refine ld1_lit ?_
      | refine ldN_lit ?_
      | refine nw (fun n => ?_)
      | refine bld ?_
      | refine st_lit rfl ?_
      | refine need (by first | rfl | omega) ?_
      | (refine wr (fun z hz => ?_); (try rw [Int.tdiv_eq_ediv_of_nonneg (by omega)] at hz); rw [w64 (by omega) (by omega)] at hz; subst hz)
      | (refine zv (fun z hz => ?_); (try rw [Int.tmod_eq_emod_of_nonneg (by omega)] at hz); subst hz)
      | (refine ifs (fun h => ?_) (fun h => ?_) <;> (try (exfalso; first | omega | with_reducible contradiction | with_reducible exact h rfl)))
      | refine fin_nil ⟨?_, rfl⟩)
  all_goals first
    | exact ret_int (ck_0 ⟨by omega, by omega, by omega, by omega, by omega, by omega, by omega, by omega, by omega, by omega, by omega, by omega, by omega, by omega, by omega, by omega, fun _ => by omega, fun _ => by omega, fun _ => by omega, fun _ => ‹_›, by omega⟩).symm
    | (refine ret_int (ck_2 fun h => ?_).symm; have h1 := h.e0; have h2 := h.e1; have h3 := h.i0; have h4 := h.i1; have h5 := h.d0; have h6 := h.d1; have h7 := h.m0; have h8 := h.m1; have h9 := h.a00; have h10 := h.a01; have h11 := h.a10; have h12 := h.a11; have h13 := h.u00; have h14 := h.u01; have h15 := h.u10; have h16 := h.u11; have h17 := h.md; omega)
    | (refine ret_int (ck_2 fun h => ?_).symm; have h1 := h.at1 rfl; have h2 := h.at2 rfl; have h3 := h.at3 rfl; omega)
    | (refine ret_int (ck_2 fun h => ?_).symm; have h1 := h.at4 rfl; contradiction)
    | (refine ret_int (ck_0 ?_).symm; refine ⟨?_, ?_, ?_, ?_, ?_, ?_, ?_, ?_, ?_, ?_, ?_, ?_, ?_, ?_, ?_, ?_, ?_, ?_, ?_, ?_, ?_⟩ <;> first | omega | (intro hf; exact absurd hf (by decide)))
    | skip
end Go.Proofs.YtohefdmfnllehaaGreat.Reg
/- reg.Put; R11.Right. -/
namespace Go.Proofs.YtohefdmfnllehaaGreat.Reg
open Go Ev Be Geom
set_option linter.unusedVariables false
set_option linter.unusedSimpArgs false
set_option maxRecDepth 100000
section
variable {a b : Dg} {e iv a0 a1 u0 u1 d m : Int} {t : Bool}
theorem check_t (a : Dg) (h : RR b e iv a0 a1 u0 u1 d m t) : Fnc Tryz.prog 104 [.agg (regL a b e iv a0 a1 u0 u1 d m t).toArray] [] (Ret (.int .i64 0) []) := by have := check a b e iv a0 a1 u0 u1 d m t; rwa [ck_0 h] at this
theorem check_f (a : Dg) (h : ¬ RR b e iv a0 a1 u0 u1 d m t) : Fnc Tryz.prog 104 [.agg (regL a b e iv a0 a1 u0 u1 d m t).toArray] [] (Ret (.int .i64 2) []) := by have := check a b e iv a0 a1 u0 u1 d m t; rwa [ck_2 h] at this
theorem put_f (a : Dg) (h : ¬ RR b e iv a0 a1 u0 u1 d m t) : Fnc Tryz.prog 205 [.agg (regL a b e iv a0 a1 u0 u1 d m t).toArray] [] (Ret (.tuple #[.string { data := #[] }, .int .i64 2]) []) := by
  refine fn_intro Tryz.func205 (by kernel_rfl) ?_
  repeat' ((conv => whnf); first
      | refine call_val (check_f a h) ?_
      | refine ld1_lit ?_
      | refine ldN_lit ?_
      | refine nw (fun n => ?_)
      | refine bld ?_
      | refine st_lit rfl ?_
      | refine need (by first | rfl | omega) ?_
      | (refine wr (fun z hz => ?_); (try rw [Int.tdiv_eq_ediv_of_nonneg (by omega)] at hz); rw [w64 (by omega) (by omega)] at hz; subst hz)
      | (refine zv (fun z hz => ?_); (try rw [Int.tmod_eq_emod_of_nonneg (by omega)] at hz); subst hz)
      | (refine ifs (fun h => ?_) (fun h => ?_) <;> (try (exfalso; first | omega | with_reducible contradiction | with_reducible exact h rfl)))
      | refine fin_nil ⟨?_, rfl⟩)
  all_goals rfl
attribute [local irreducible] rowE rowS padE padS putE putS layL
theorem puts_size (n w : Int) : (putS n w).size ≤ 8 := putS_le
set_option maxHeartbeats 4000000 in
theorem put_t (a : Dg) (h : RR b e iv a0 a1 u0 u1 d m t) : Fnc Tryz.prog 205 [.agg (regL a b e iv a0 a1 u0 u1 d m t).toArray] [] (Ret (.tuple #[.string (str (layL a b e iv a0 a1 u0 u1 d m t)), .int .i64 0]) []) := by
  have hl : (dl a).length = 32 := by simp [dl]
  have hl' : (dl b).length = 32 := by simp [dl]
  refine fn_intro Tryz.func205 (by kernel_rfl) ?_
  have hr := row_reg h
  have hp := pad_reg (a := a) h
  cases t
  all_goals simp only [atI, Bool.false_eq_true, if_false, if_true] at hr hp
  all_goals repeat' ((conv => whnf); first
      | refine call_val (check_t a ‹_›) ?_
      | refine call_val (put _ _) ?_
      | (refine call_lit (row 1 [a0, u0, a1, u1, d, m, 0, 103] (Sl.at_ _ 0 8) trivial (by simp)) ?_; rw [hr.1, hr.2])
      | (refine call_lit (row 1 [a0, u0, a1, u1, d, m, 1, 103] (Sl.at_ _ 0 8) trivial (by simp)) ?_; rw [hr.1, hr.2])
      | (refine nv (fun z hz => ?_); subst hz)
      | refine draw_quiet rfl (by kernel_rfl) ?_
      | refine qb2s_at (dl a) rfl rfl rfl rfl rfl ?_
      | refine qb2s_at (dl b) rfl rfl rfl rfl rfl ?_
      | (have p1 := puts_size e 4; have p2 := puts_size iv 8; refine need (by rw [show IntKind.i64.max = 9223372036854775807 from rfl]; simp only [ByteArray.size_append, Ev.str_size, List.length_cons, List.length_nil, hl, hl']; omega) ?_; refine sv (fun z hz => ?_); subst hz)
      | (have p1 := puts_size e 4; have p2 := puts_size iv 8; refine qcall_val (pad _ 96 (by simp only [ByteArray.size_append, Ev.str_size, List.length_cons, List.length_nil, hl, hl']; omega)) ?_; rw [hp.1, hp.2])
      | refine ld1_lit ?_
      | refine ldN_lit ?_
      | refine nw (fun n => ?_)
      | refine bld ?_
      | refine st_lit rfl ?_
      | refine need (by first | rfl | omega) ?_
      | (refine wr (fun z hz => ?_); (try rw [Int.tdiv_eq_ediv_of_nonneg (by omega)] at hz); rw [w64 (by omega) (by omega)] at hz; subst hz)
      | (refine zv (fun z hz => ?_); (try rw [Int.tmod_eq_emod_of_nonneg (by omega)] at hz); subst hz)
      | (refine ifs (fun h => ?_) (fun h => ?_) <;> (try (exfalso; first | omega | with_reducible contradiction | with_reducible exact h rfl)))
      | refine fin_nil ⟨?_, rfl⟩)
  all_goals rfl
end
end Go.Proofs.YtohefdmfnllehaaGreat.Reg
/- A store: what lies in memory, the small functions. -/
namespace Go.Proofs.YtohefdmfnllehaaGreat.Sto
open Go Ev Sha Aes Orc Node Rec Chn Jrn Cau
open Rig (RigP Rg rgM readR writeR flushR setRegR z64 app_of tick comes write_ mayE RigA)
set_option linter.unusedVariables false
set_option linter.unusedSimpArgs false
set_option maxRecDepth 100000
/-- What the register says. -/
structure RgV where
  a0 : Dg
  a1 : Dg
  ep : Int
  iv : Int
  ar0 : Int
  ar1 : Int
  u0 : Int
  u1 : Int
  dirty : Int
  mode : Int
  at_ : Bool
def regC (x : RgV) : List Value := dgV x.a0 ++ (dgV x.a1 ++ [.int .i64 x.ep, .int .i64 x.iv, .int .i64 x.ar0, .int .i64 x.ar1, .int .i64 x.u0, .int .i64 x.u1, .int .i64 x.dirty, .int .i64 x.mode, .bool x.at_])
def RgV.set (x : RgV) (d : Nat) (a : Dg) (ar u : Int) : RgV := if d = 0 then { x with a0 := a, ar0 := ar, u0 := u } else { x with a1 := a, ar1 := ar, u1 := u }
theorem regC_len (x : RgV) : (regC x).length = 73 := by unfold regC; simp [dgV_len]
theorem regC_L (x : RgV) : regC x = Reg.regL x.a0 x.a1 x.ep x.iv x.ar0 x.ar1 x.u0 x.u1 x.dirty x.mode x.at_ := rfl
theorem regC_one (x : RgV) : ∀ u ∈ regC x, u.oneCell' = true := by
  intro u hu
  unfold regC at hu
  rcases List.mem_append.1 hu with hu | hu
  · exact dgV_one _ u hu
  · rcases List.mem_append.1 hu with hu | hu
    · exact dgV_one _ u hu
    · simp at hu
      rcases hu with rfl | rfl | rfl | rfl | rfl | rfl | rfl | rfl | rfl <;> rfl
/-- The cells of a store. -/
structure StP where
  rn : Nat
  on : Nat
  g0 : Int
  g1 : Int
  g2 : Int
  super : ByteArray
  j0 : Option Addr
  t0 : Option Addr
  j1 : Option Addr
  t1 : Option Addr
  is : RgV
  next : RgV
  failed : Int
def stC (x : StP) : List Value := [pt x.rn, pt x.on, .int .i64 x.g0, .int .i64 x.g1, .int .i64 x.g2, .string x.super, .pointer x.j0, .pointer x.t0, .pointer x.j1, .pointer x.t1] ++ (regC x.is ++ (regC x.next ++ [.int .i64 x.failed]))
abbrev stB (n : Nat) (x : StP) : Blk := ⟨n, .row (stC x) 159⟩
abbrev rgB (n : Nat) (x : RgV) : Blk := ⟨n, .row (regC x) 61⟩
theorem stC_len (x : StP) : (stC x).length = 157 := by unfold stC; simp [regC_len]
section
variable {x : StP} {y : RgV}
theorem stC_0 : (stC x)[0]? = some (pt x.rn) := rfl
theorem stC_1 : (stC x)[1]? = some (pt x.on) := rfl
theorem stC_5 : (stC x)[5]? = some (.string x.super) := rfl
theorem stC_6 : (stC x)[6]? = some (.pointer x.j0) := rfl
theorem stC_7 : (stC x)[7]? = some (.pointer x.t0) := rfl
theorem stC_8 : (stC x)[8]? = some (.pointer x.j1) := rfl
theorem stC_9 : (stC x)[9]? = some (.pointer x.t1) := rfl
theorem stC_g : ((stC x).drop 2).take 3 = [.int .i64 x.g0, .int .i64 x.g1, .int .i64 x.g2] := rfl
theorem stC_at : (stC x)[82]? = some (.bool x.is.at_) := rfl
theorem stC_iv : (stC x)[75]? = some (.int .i64 x.is.iv) := rfl
theorem stC_ni : (stC x)[148]? = some (.int .i64 x.next.iv) := rfl
theorem stC_f : (stC x)[156]? = some (.int .i64 x.failed) := rfl
theorem stC_is : ((stC x).drop 10).take (regC x.is).length = regC x.is := rfl
theorem stC_nx : ((stC x).drop 83).take (regC x.next).length = regC x.next := rfl
theorem stC_s6 {v : Option Addr} : (stC x).set 6 (.pointer v) = stC { x with j0 := v } := rfl
theorem stC_s7 {v : Option Addr} : (stC x).set 7 (.pointer v) = stC { x with t0 := v } := rfl
theorem stC_s8 {v : Option Addr} : (stC x).set 8 (.pointer v) = stC { x with j1 := v } := rfl
theorem stC_s9 {v : Option Addr} : (stC x).set 9 (.pointer v) = stC { x with t1 := v } := rfl
theorem stC_si {v : Int} : (stC x).set 75 (.int .i64 v) = stC { x with is := { x.is with iv := v } } := rfl
theorem stC_sn {v : Int} : (stC x).set 148 (.int .i64 v) = stC { x with next := { x.next with iv := v } } := rfl
theorem stC_sf {v : Int} : (stC x).set 156 (.int .i64 v) = stC { x with failed := v } := rfl
theorem stC_sis : (stC x).take 10 ++ regC y ++ (stC x).drop (10 + (regC y).length) = stC { x with is := y } := rfl
theorem stC_snx : (stC x).take 83 ++ regC y ++ (stC x).drop (83 + (regC y).length) = stC { x with next := y } := rfl
theorem regC_s0 {b : Dg} : (regC y).take 0 ++ dgV b ++ (regC y).drop (0 + (dgV b).length) = regC { y with a0 := b } := rfl
theorem regC_s1 {b : Dg} : (regC y).take 32 ++ dgV b ++ (regC y).drop (32 + (dgV b).length) = regC { y with a1 := b } := rfl
theorem regC_s66 {v : Int} : (regC y).set 66 (.int .i64 v) = regC { y with ar0 := v } := rfl
theorem regC_s67 {v : Int} : (regC y).set 67 (.int .i64 v) = regC { y with ar1 := v } := rfl
theorem regC_s68 {v : Int} : (regC y).set 68 (.int .i64 v) = regC { y with u0 := v } := rfl
theorem regC_s69 {v : Int} : (regC y).set 69 (.int .i64 v) = regC { y with u1 := v } := rfl
theorem regC_si {v : Int} : (regC y).set 65 (.int .i64 v) = regC { y with iv := v } := rfl
end
section
variable {P : Program} {M : List Blk} {n : Nat} {x : StP} {T : TypeId} {f : Blk → List Blk} {k : List Blk → Prop} [z : Zip M n (.row (stC x) T) f]
theorem st_6 {v : Option Addr} (hk : k (f ⟨n, .row (stC { x with j0 := v }) T⟩)) : StN P M n 6 [.pointer v] k := st_row rfl (by rw [stC_len]; omega) (by rw [stC_s6]; exact hk)
theorem st_7 {v : Option Addr} (hk : k (f ⟨n, .row (stC { x with t0 := v }) T⟩)) : StN P M n 7 [.pointer v] k := st_row rfl (by rw [stC_len]; omega) (by rw [stC_s7]; exact hk)
theorem st_8 {v : Option Addr} (hk : k (f ⟨n, .row (stC { x with j1 := v }) T⟩)) : StN P M n 8 [.pointer v] k := st_row rfl (by rw [stC_len]; omega) (by rw [stC_s8]; exact hk)
theorem st_9 {v : Option Addr} (hk : k (f ⟨n, .row (stC { x with t1 := v }) T⟩)) : StN P M n 9 [.pointer v] k := st_row rfl (by rw [stC_len]; omega) (by rw [stC_s9]; exact hk)
theorem st_f {v : Int} (hk : k (f ⟨n, .row (stC { x with failed := v }) T⟩)) : StN P M n 156 [.int .i64 v] k := st_row rfl (by rw [stC_len]; omega) (by rw [stC_sf]; exact hk)
theorem st_ni {v : Int} (hk : k (f ⟨n, .row (stC { x with next := { x.next with iv := v } }) T⟩)) : StN P M n 148 [.int .i64 v] k := st_row rfl (by rw [stC_len]; omega) (by rw [stC_sn]; exact hk)
theorem st_is {y : RgV} (hk : k (f ⟨n, .row (stC { x with is := y }) T⟩)) : StN P M n 10 (regC y) k := st_rowN (regC_one y) (by rw [stC_len, regC_len]; omega) (by rw [stC_sis]; exact hk)
theorem st_nx {y : RgV} (hk : k (f ⟨n, .row (stC { x with next := y }) T⟩)) : StN P M n 83 (regC y) k := st_rowN (regC_one y) (by rw [stC_len, regC_len]; omega) (by rw [stC_snx]; exact hk)
end
section
variable {P : Program} {M : List Blk} {n : Nat} {y : RgV} {T : TypeId} {f : Blk → List Blk} {k : List Blk → Prop} [z : Zip M n (.row (regC y) T) f]
theorem st_ra0 {b : Dg} (hk : k (f ⟨n, .row (regC { y with a0 := b }) T⟩)) : StN P M n 0 (dgV b) k := st_rowN (dgV_one b) (by rw [regC_len, dgV_len]; omega) (by rw [regC_s0]; exact hk)
theorem st_ra1 {b : Dg} (hk : k (f ⟨n, .row (regC { y with a1 := b }) T⟩)) : StN P M n 32 (dgV b) k := st_rowN (dgV_one b) (by rw [regC_len, dgV_len]; omega) (by rw [regC_s1]; exact hk)
theorem st_r66 {v : Int} (hk : k (f ⟨n, .row (regC { y with ar0 := v }) T⟩)) : StN P M n 66 [.int .i64 v] k := st_row rfl (by rw [regC_len]; omega) (by rw [regC_s66]; exact hk)
theorem st_r67 {v : Int} (hk : k (f ⟨n, .row (regC { y with ar1 := v }) T⟩)) : StN P M n 67 [.int .i64 v] k := st_row rfl (by rw [regC_len]; omega) (by rw [regC_s67]; exact hk)
theorem st_r68 {v : Int} (hk : k (f ⟨n, .row (regC { y with u0 := v }) T⟩)) : StN P M n 68 [.int .i64 v] k := st_row rfl (by rw [regC_len]; omega) (by rw [regC_s68]; exact hk)
theorem st_r69 {v : Int} (hk : k (f ⟨n, .row (regC { y with u1 := v }) T⟩)) : StN P M n 69 [.int .i64 v] k := st_row rfl (by rw [regC_len]; omega) (by rw [regC_s69]; exact hk)
theorem st_riv {v : Int} (hk : k (f ⟨n, .row (regC { y with iv := v }) T⟩)) : StN P M n 65 [.int .i64 v] k := st_row rfl (by rw [regC_len]; omega) (by rw [regC_si]; exact hk)
end
attribute [local irreducible] dgV D jC wrF rcC stC regC
/-! The small functions. -/
theorem must_ok : Fnc Tryz.prog 97 [.int .i64 0] [] (Ret (.tuple #[]) []) := by
  refine fn_intro Tryz.func97 (by kernel_rfl) ?_
  repeat' ((conv => whnf); first
      | refine ld1_lit ?_
      | refine ldN_lit ?_
      | refine nw (fun n => ?_)
      | refine bld ?_
      | refine st_lit rfl ?_
      | refine need (by first | rfl | omega) ?_
      | (refine wr (fun z hz => ?_); (try rw [Int.tdiv_eq_ediv_of_nonneg (by omega)] at hz); rw [w64 (by omega) (by omega)] at hz; subst hz)
      | (refine zv (fun z hz => ?_); (try rw [Int.tmod_eq_emod_of_nonneg (by omega)] at hz); subst hz)
      | (refine ifs (fun h => ?_) (fun h => ?_) <;> (try (exfalso; first | omega | with_reducible contradiction | with_reducible exact h rfl))))
  all_goals (conv => whnf)
  all_goals exact fin_nil ⟨rfl, rfl⟩
theorem must_no (c : Int) (hc : c ≠ 0) : Fnc Tryz.prog 97 [.int .i64 c] [] (fun e A => e = .panicked (pe c) ∧ A = []) := by
  refine fn_intro Tryz.func97 (by kernel_rfl) ?_
  repeat' ((conv => whnf); first
      | refine ld1_lit ?_
      | refine ldN_lit ?_
      | refine nw (fun n => ?_)
      | refine bld ?_
      | refine st_lit rfl ?_
      | refine need (by first | rfl | omega) ?_
      | (refine wr (fun z hz => ?_); (try rw [Int.tdiv_eq_ediv_of_nonneg (by omega)] at hz); rw [w64 (by omega) (by omega)] at hz; subst hz)
      | (refine zv (fun z hz => ?_); (try rw [Int.tmod_eq_emod_of_nonneg (by omega)] at hz); subst hz)
      | (refine ifs (fun h => ?_) (fun h => ?_) <;> (try (exfalso; first | omega | with_reducible contradiction | with_reducible exact h rfl))))
  all_goals (conv => whnf)
  all_goals exact fin_nil ⟨rfl, rfl⟩
theorem devices_ (sn : Nat) (x : StP) (h : x.is.at_ = true) : Fnc Tryz.prog 132 [pt sn] [stB sn x] (fun e A => ∃ n, e = .returned (.slice (some ⟨n, 0, none⟩) 2 2) ∧ A = [stB sn x, ⟨n, .cells [.int .i64 0, .int .i64 1] 3⟩]) := by
  have hat := stC_at (x := x)
  rw [h] at hat
  refine fn_intro Tryz.func132 (by kernel_rfl) ?_
  repeat' ((conv => whnf); first
      | refine ld1_row hat ?_
      | refine ld1_lit ?_
      | refine ldN_lit ?_
      | refine nw (fun n => ?_)
      | refine bld ?_
      | refine st_lit rfl ?_
      | refine need (by first | rfl | omega) ?_
      | (refine wr (fun z hz => ?_); (try rw [Int.tdiv_eq_ediv_of_nonneg (by omega)] at hz); rw [w64 (by omega) (by omega)] at hz; subst hz)
      | (refine zv (fun z hz => ?_); (try rw [Int.tmod_eq_emod_of_nonneg (by omega)] at hz); subst hz)
      | (refine ifs (fun h => ?_) (fun h => ?_) <;> (try (exfalso; first | omega | with_reducible contradiction | with_reducible exact h rfl))))
  all_goals (conv => whnf)
  all_goals exact fin_pick (A' := [stB sn x, ⟨n, _⟩]) (.cons takeC (.cons takeC .nil)) ⟨n, rfl, rfl⟩
/-! Steps of a rig that nobody hurts. -/
def flF (r : RigP) (d : Int) : RigP := (ticked r).setDev d (Rig.flushD ((ticked r).dev d))
def srF (r : RigP) (s : ByteArray) : RigP := { ticked r with reg := s }
theorem fine_fl {r : RigP} (h : Fine r) (d : Int) : Fine (flF r d) := (h.ticked).setDev _ _
theorem fine_sr {r : RigP} (h : Fine r) (s : ByteArray) : Fine (srF r s) := ⟨h.down, h.arm, h.fault, h.later⟩
theorem flushF (x : Rg) (d : Int) (h : Fine x.r) (hd : d = 0 ∨ d = 1) : Fnc Tryz.prog 204 [pt x.a.rn, .int .i64 d] (rgM x) (Ret (.int .i64 0) (rgM ⟨x.a, flF x.r d⟩)) := by
  have := Rig.flush_ x d
  rw [show flushR x.r d = (flF x.r d, 0) by unfold flushR; rw [mayE_ok hd (by omega) (by omega), if_neg (by simp), h.tick]; rfl] at this
  exact this
theorem setregF (x : Rg) (s : ByteArray) (h : Fine x.r) (hs : s.size = 96) : Fnc Tryz.prog 206 [pt x.a.rn, .string s] (rgM x) (Ret (.int .i64 0) (rgM ⟨x.a, srF x.r s⟩)) := by
  have := Rig.setreg_ x s
  rw [show setRegR x.r s = (srF x.r s, 0) by unfold setRegR; rw [if_neg (by simp [hs]), h.tick]; rfl] at this
  exact this
attribute [local irreducible] flF srF
/-- A register that may be. -/
def RgV.ok (x : RgV) : Prop := Reg.RR x.a1 x.ep x.iv x.ar0 x.ar1 x.u0 x.u1 x.dirty x.mode x.at_
def RgV.lay (x : RgV) : ByteArray := str (Reg.layL x.a0 x.a1 x.ep x.iv x.ar0 x.ar1 x.u0 x.u1 x.dirty x.mode x.at_)
theorem lay_size (x : RgV) : x.lay.size = 96 := by unfold RgV.lay; rw [Ev.str_size, Reg.layL_length]
theorem rput (x : RgV) (h : x.ok) : Fnc Tryz.prog 205 [.agg (regC x).toArray] [] (Ret (.tuple #[.string x.lay, .int .i64 0]) []) := by
  rw [regC_L]; exact Reg.put_t x.a0 h
attribute [local irreducible] RgV.lay
theorem set_ (g : Rg) (sn : Nat) (x : StP) (y : RgV) (hf : Fine g.r) (hrn : x.rn = g.a.rn) (hy : y.ok) :
    Fnc Tryz.prog 135 [pt sn, .agg (regC y).toArray] (rgM g ++ [stB sn x]) (Ret (.tuple #[]) (rgM ⟨g.a, srF g.r y.lay⟩ ++ [stB sn { x with is := y }])) := by
  have hp := rput y hy
  have hs := setregF g y.lay hf (lay_size y)
  rw [← hrn] at hs
  refine fn_intro Tryz.func135 (by kernel_rfl) ?_
  repeat' ((conv => whnf); first
      | refine force_of ?_
      | refine nw_row (cs' := regC y) rfl (fun n => ?_)
      | refine ldN_whole (regC_len _) ?_
      | refine call_val hp ?_
      | refine call_val must_ok ?_
      | refine ld1_row (n := sn) stC_0 ?_
      | refine call_gr hs (.one takeG) ?_
      | (refine need ?_ ?_; exact regC_len _)
      | refine st_is ?_
      | refine ld1_lit ?_
      | refine ldN_lit ?_
      | refine nw (fun n => ?_)
      | refine bld ?_
      | refine st_lit rfl ?_
      | refine need (by first | rfl | omega) ?_
      | (refine wr (fun z hz => ?_); (try rw [Int.tdiv_eq_ediv_of_nonneg (by omega)] at hz); rw [w64 (by omega) (by omega)] at hz; subst hz)
      | (refine zv (fun z hz => ?_); (try rw [Int.tmod_eq_emod_of_nonneg (by omega)] at hz); subst hz)
      | (refine ifs (fun h => ?_) (fun h => ?_) <;> (try (exfalso; first | omega | with_reducible contradiction | with_reducible exact h rfl))))
  all_goals (conv => whnf)
  all_goals exact fin_g (A := rgM _ ++ [stB sn _]) (.grp takeG (.blk takeC .nil)) ⟨rfl, rfl⟩
abbrev two (n : Nat) : Blk := ⟨n, .cells [.int .i64 0, .int .i64 1] 3⟩
theorem flush2 (g : Rg) (sn ln : Nat) (x : StP) (hf : Fine g.r) (hrn : x.rn = g.a.rn) :
    Fnc Tryz.prog 134 [pt sn, .slice (some ⟨ln, 0, none⟩) 2 2] (rgM g ++ [stB sn x, two ln]) (Ret (.tuple #[]) (rgM ⟨g.a, flF (flF g.r 0) 1⟩ ++ [stB sn x, two ln])) := by
  have h0 := flushF g 0 hf (.inl rfl)
  have h1 := flushF ⟨g.a, flF g.r 0⟩ 1 (fine_fl hf 0) (.inr rfl)
  rw [← hrn] at h0
  rw [show (⟨g.a, flF g.r 0⟩ : Rg).a.rn = x.rn from hrn.symm] at h1
  refine fn_intro Tryz.func134 (by kernel_rfl) ?_
  repeat' ((conv => whnf); first
      | refine loop_n 3 ?_
      | refine ld1_row (n := sn) stC_0 ?_
      | refine nv_eq (a := 0) rfl ?_
      | refine nv_eq (a := 1) rfl ?_
      | refine call_val must_ok ?_
      | refine call_gr h0 (.one takeG) ?_
      | refine call_gr h1 (.one takeG) ?_
      | refine ld1_lit ?_
      | refine ldN_lit ?_
      | refine nw (fun n => ?_)
      | refine bld ?_
      | refine st_lit rfl ?_
      | refine need (by first | rfl | omega) ?_
      | (refine wr (fun z hz => ?_); (try rw [Int.tdiv_eq_ediv_of_nonneg (by omega)] at hz); rw [w64 (by omega) (by omega)] at hz; subst hz)
      | (refine zv (fun z hz => ?_); (try rw [Int.tmod_eq_emod_of_nonneg (by omega)] at hz); subst hz)
      | (refine ifs (fun h => ?_) (fun h => ?_) <;> (try (exfalso; first | omega | with_reducible contradiction | with_reducible exact h rfl))))
  all_goals (conv => whnf)
  all_goals exact fin_g (A := rgM _ ++ [stB sn _, two ln]) (.grp takeG (.blk takeC (.blk takeC .nil))) ⟨rfl, rfl⟩
/-- What a device's part becomes. -/
def StP.setJ (x : StP) (d : Nat) (v : Option Addr) : StP := if d = 0 then { x with j0 := v } else { x with j1 := v }
def StP.setT (x : StP) (d : Nat) (v : Option Addr) : StP := if d = 0 then { x with t0 := v } else { x with t1 := v }
theorem plant_ (sn : Nat) (x : StP) (d : Nat) (root : Dg) (hd : d ≤ 1) :
    Fnc Tryz.prog 183 [pt sn, .int .i64 d, .agg (dgV root).toArray] [stB sn x]
      (fun e A => ∃ (tn : Nat) (a : Tree.TreA), a.rn = x.rn ∧ a.on = x.on ∧ e = .returned (.tuple #[]) ∧ A = Tree.treM tn ⟨a, ⟨d, root, [], []⟩⟩ ++ [stB sn (x.setT d (some ⟨tn, 0, none⟩))]) := by
  have ht := Tree.tnew x.rn x.on d root (by omega)
  have hdd : d = 0 ∨ d = 1 := by omega
  rcases hdd with rfl | rfl
  all_goals
    refine fn_intro Tryz.func183 (by kernel_rfl) ?_
    repeat' ((conv => whnf); first
        | refine force_of ?_
        | refine nw_dg (fun n => ?_)
        | refine draw_any 1 [(0, true), (1, true), (2, true), (4, true), (5, true), (6, true), (8, true), (3, true), (7, true), (9, false), (10, false), (11, true), (12, true), (13, true), (14, true), (15, true)] [⟨sn, _⟩] rfl (by kernel_rfl) (kept_of (.cons takeC .nil) ?_)
        | refine kept_of (.cons takeC .nil) ?_
        | refine fld1_row (n := sn) stC_0 ?_
        | refine fld1_row (n := sn) stC_1 ?_
        | refine ldN_dg rfl ?_
        | (refine call_g ht .nil (fun e A' hq => ?_); obtain ⟨tn, a, h1, h2, h3, h4⟩ := hq; subst h3; subst h4)
        | refine call_val must_ok ?_
        | refine nv_eq (a := 6) rfl ?_
        | refine nv_eq (a := 8) rfl ?_
        | refine st_7 ?_
        | refine st_9 ?_
        | refine ld1_lit ?_
        | refine ldN_lit ?_
        | refine nw (fun n => ?_)
        | refine bld ?_
        | refine st_lit rfl ?_
        | refine need (by first | rfl | omega) ?_
        | (refine wr (fun z hz => ?_); (try rw [Int.tdiv_eq_ediv_of_nonneg (by omega)] at hz); rw [w64 (by omega) (by omega)] at hz; subst hz)
        | (refine zv (fun z hz => ?_); (try rw [Int.tmod_eq_emod_of_nonneg (by omega)] at hz); subst hz)
        | (refine ifs (fun h => ?_) (fun h => ?_) <;> (try (exfalso; first | omega | with_reducible contradiction | with_reducible exact h rfl))))
    all_goals (conv => whnf)
    all_goals exact fin_g (A := Tree.treM tn _ ++ [stB sn _]) (.grp takeG (.blk takeC .nil)) ⟨tn, a, h1, h2, rfl, rfl⟩
set_option maxHeartbeats 2000000 in
theorem begin_ (g : Rg) (o : Orc) (sn xn : Nat) (x : StP) (y : RgV) (d area : Nat) (seq : Int) (root : Dg) (hf : Fine g.r) (hrn : x.rn = g.a.rn) (hon : x.on = o.on) (hd : d ≤ 1) (ha : area ≤ 1) (hs : x.super.size = 64) (hq : seqOk seq) (hb : o.ts.length ≤ 1099511627000) :
    Fnc Tryz.prog 203 [pt sn, pt xn, .int .i64 d, .int .i64 area, .agg (rcC seq root).toArray] (rgM g ++ (orcM o ++ [stB sn x, rgB xn y]))
      (fun e A => ∃ (jn : Nat) (o' : Orc), o'.on = o.on ∧ o'.ts = addT (addT o.ts (startS x.super d area)) (nextS (D (startS x.super d area)) (recB seq root)) ∧ e = .returned (.tuple #[]) ∧
        A = rgM ⟨g.a, wrF g.r d (1 + 80 * area) (recB seq root)⟩ ++ (orcM o' ++ [jB jn g.a.rn o.on (addJ (jr0 x.super d area (D (startS x.super d area))) seq root (recB seq root)), stB sn (x.setJ d (some ⟨jn, 0, none⟩)), rgB xn (y.set d (D (nextS (D (startS x.super d area)) (recB seq root))) area 1)])) := by
  have hj := jbegin g o x.super d area seq root hf hd ha hs hq hb
  rw [← hrn, ← hon] at hj
  have hdd : d = 0 ∨ d = 1 := by omega
  obtain ⟨jx, ejx⟩ : ∃ jx, jx = addJ (jr0 x.super d area (D (startS x.super d area))) seq root (recB seq root) := ⟨_, rfl⟩
  have ex : jx.anchor = D (nextS (D (startS x.super d area)) (recB seq root)) := by rw [ejx]; rfl
  have eu : jx.used = 1 := by rw [ejx]; rfl
  rw [← ejx] at hj ⊢
  rw [← ex]
  have h1 := fun jn => janchor jn x.rn x.on jx
  have h2 := fun jn => jused jn x.rn x.on jx
  rw [eu] at h2
  rw [← hrn, ← hon]
  rcases hdd with rfl | rfl
  all_goals
    refine fn_intro Tryz.func203 (by kernel_rfl) ?_
    repeat' ((conv => whnf); first
        | refine force_of ?_
        | refine nw_row (cs' := rcC seq root) rfl (fun n => ?_)
        | refine draw_any 1 [(0, true), (1, true), (2, true), (4, true), (5, true), (6, true), (8, true), (9, true), (10, true), (12, true), (13, true), (3, true), (7, true), (11, true), (14, true), (15, false), (16, false), (17, true), (18, true), (19, true), (20, true), (21, true)] [⟨sn, _⟩] rfl (by kernel_rfl) (kept_of (.cons takeC .nil) ?_)
        | refine kept_of (.cons takeC .nil) ?_
        | refine fld1_row (n := sn) stC_0 ?_
        | refine fld1_row (n := sn) stC_1 ?_
        | refine fld1_row (n := sn) stC_5 ?_
        | refine ldN_whole (n := n) (rcC_len _ _) ?_
        | (refine call_g hj (.grp takeG (.one takeG)) (fun e A' hq => ?_); obtain ⟨jn, o1, a1, a2, a3, a4⟩ := hq; subst a3; subst a4)
        | refine call_val must_ok ?_
        | refine nv_eq (a := 6) rfl ?_
        | refine nv_eq (a := 8) rfl ?_
        | refine st_6 ?_
        | refine st_8 ?_
        | refine draw_any 4 [(0, true), (1, true), (2, true), (3, true), (4, true), (5, true), (6, true), (8, true), (9, true), (11, true), (12, true), (15, true), (16, true), (19, true), (20, true), (7, false), (10, false), (13, true), (14, false), (17, true), (18, false), (21, true), (22, false)] [] rfl (by kernel_rfl) ?_
        | refine kept_nil ?_
        | refine call_gr (h1 jn) (.blk takeC .nil) ?_
        | refine call_gr (h2 jn) (.blk takeC .nil) ?_
        | refine nv_eq (a := 0) rfl ?_
        | refine nv_eq (a := 32) rfl ?_
        | refine nv_eq (a := 66) rfl ?_
        | refine nv_eq (a := 67) rfl ?_
        | refine nv_eq (a := 68) rfl ?_
        | refine nv_eq (a := 69) rfl ?_
        | (refine need ?_ ?_; exact dgV_len _)
        | refine st_ra0 ?_
        | refine st_ra1 ?_
        | refine st_r66 ?_
        | refine st_r67 ?_
        | refine st_r68 ?_
        | refine st_r69 ?_
        | refine ld1_lit ?_
        | refine ldN_lit ?_
        | refine nw (fun n => ?_)
        | refine bld ?_
        | refine st_lit rfl ?_
        | refine need (by first | rfl | omega) ?_
        | (refine wr (fun z hz => ?_); (try rw [Int.tdiv_eq_ediv_of_nonneg (by omega)] at hz); rw [w64 (by omega) (by omega)] at hz; subst hz)
        | (refine zv (fun z hz => ?_); (try rw [Int.tmod_eq_emod_of_nonneg (by omega)] at hz); subst hz)
        | (refine ifs (fun h => ?_) (fun h => ?_) <;> (try (exfalso; first | omega | with_reducible contradiction | with_reducible exact h rfl))))
    all_goals (conv => whnf)
    all_goals exact fin_g (A := rgM _ ++ (orcM o1 ++ [jB jn x.rn x.on jx, stB sn _, rgB xn _])) (.grp takeG (.grp takeG (.blk takeC (.blk takeC (.blk takeC .nil))))) ⟨jn, o1, a1, a2, rfl, rfl⟩
end Go.Proofs.YtohefdmfnllehaaGreat.Sto
