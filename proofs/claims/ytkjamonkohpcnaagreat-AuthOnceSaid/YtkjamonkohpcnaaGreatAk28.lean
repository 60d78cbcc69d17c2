/- Texts of this proof, merged. -/
import Derived.Test.YtkjamonkohpcnaaGreatAk27
import Derived.Test.YtkjamonkohpcnaaGreatAk4
set_option linter.unusedVariables false
set_option linter.unusedSimpArgs false
set_option linter.unusedSectionVars false
set_option maxRecDepth 100000
set_option maxHeartbeats 16000000
namespace Go.Proofs.YtkjamonkohpcnaaGreat
namespace Ad
open Go Ev Sha Aes Orc Node Rec Chn Jrn Cau Sto Srt Stg Wld Bgn Ivs Ctr Aut Cmt
open Rig (Fnc_takeR RigP Rg rgM z64 app_of RigA crR)
open Tree (TreP TreA Tre treM TI Same updB)
variable {a : RigA} {A : StoA} {B : VA} {on wn : Nat} {S : Sy} {f0 f1 g0 g1 F G : Nat → ByteArray} {m b E c : Nat} {N : Int} {many : Int} {Sn : List Int} {O : Own}
attribute [local irreducible] wdS syM sysM z64 updB sealB z48 rowS dz keyT Bgn.keyS crR dat48
theorem do_c (h_ : AW a A on S f0 f1 g0 g1 58 b N E c many Sn) (hc : c ≤ 50) (hN : N ≤ 1000) (hb : b ≤ 1000000) (hO : O.ok 1 Sn.length (intL Sn)) {k d e t : Int} {l : Nat} {s : ByteArray} (hd : d = 0 ∨ d = 1) (hl : l < 64) (hk : k = 5) :
 Fnc Tryz.prog 31 [pt wn, actV k d l e t s] (awM a on wn A B S (dz f0 f1) (dz g0 g1) O Sn) (DoQ a on wn b E c N many) := by
 have w1 := w_store (a := a) (A := A) (B := B) (S := S)
 have w2 := w_wait0 (a := a) (A := A) (B := B) (S := S)
 have w3 := w_wait1 (a := a) (A := A) (B := B) (S := S)
 have w4 := w_commitK (B := B) h_.wk (by omega) (by omega) (by omega)
 have w5 := data_ s
 have hs48 := dat48_size s
 unfold awM
 subst hk
 all_goals rcases (show 50 < S.V.t0.sheet.length ∨ (S.V.t0.sheet.length ≤ 50 ∧ 50 < S.V.t1.sheet.length) ∨ (S.V.t0.sheet.length ≤ 50 ∧ S.V.t1.sheet.length ≤ 50) by omega) with p1 | ⟨p1, p2⟩ | ⟨p1, p2⟩
 all_goals
  refine fn_intro Tryz.func31 (by kernel_rfl) ?_
  repeat' ((conv => whnf); first
   | refine ld1_row (n := wn) wdS_2 ?_ | refine call_gr w1 (.one takeE) ?_ | refine call_gr w2 (.one takeE) ?_ | refine call_gr w3 (.one takeE) ?_ | refine ldN_row (n := wn) _ wdS_m (rowS_len _) ?_ | refine force_of ?_ | (refine need ?_ ?_; exact rowS_len _) | refine ss_o ?_ | (refine call_g w4 (.one takeE) (fun e A' hq => ?_); obtain ⟨A1, S1, a1, ⟨k1, k2⟩, e1, e2⟩ := hq; subst e1; subst e2) | refine call_val w5 ?_ | refine ld1_lit ?_ | refine nw (fun n => ?_) | (refine ifs (fun h => ?_) (fun h => ?_) <;> try (exfalso; first | omega | with_reducible first | contradiction | exact h rfl)))
  all_goals (conv => whnf)
  all_goals first
   | (have hw := aw_com h_ k1 k2 hc) | (have hw := aw_50 h_ p1 p2 hc; rename StoA => A1; rename Sy => S1)
  all_goals
   have c1 := w_clearK (B := B) hw.wk hd hl (by omega) (by omega)
   have hdz := dz_up f0 f1 hd hl dat_z48
   repeat' ((conv => whnf); first
    | refine draw_any 19 [(0, true), (1, true), (3, true), (6, true), (7, true), (2, true), (8, true), (4, true), (5, false), (9, true), (10, false)] [⟨n, _⟩] rfl (by kernel_rfl) (kept_of (.cons takeC .nil) ?_) | refine draw_any 20 [(0, true), (1, true), (2, true), (4, true), (6, true), (3, true), (5, true), (7, false), (8, false), (9, true), (10, true)] [⟨wn, _⟩, ⟨n, _⟩] rfl (by kernel_rfl) (kept_of (.cons takeC (.cons takeC .nil)) ?_) | refine kept_of (.cons takeC (.cons takeC .nil)) ?_ | refine kept_of (.cons takeC .nil) ?_ | refine fld1_row (n := wn) wdS_2 ?_ | refine fld1 ?_ | refine call_val z48_ ?_ | (refine ss_m (i := 64 * d.toNat + l) (by omega) (by omega) ?_; rw [hdz]) | refine call_a c1 (.one takeE) (fun S2 hS2 => ?_) | (refine nv (fun z hz => ?_); (try simp at hz); replace hz := hz.symm; subst hz) | refine need (by omega) ?_ | refine ld1_lit ?_ | refine need (by first | rfl | omega) ?_ | (refine ifs (fun h => ?_) (fun h => ?_) <;> try (exfalso; first | omega | with_reducible first | contradiction | exact h rfl)))
   all_goals (conv => whnf)
   all_goals exact fin_g (A := ⟨wn, _⟩ :: (Own.blk O _ _ ++ syM a A1 B S2)) (.blk takeC (.grp takeE (.one takeE))) ⟨A1, B, S2, _, _, _, _, O, _, aw_k (b2 := b + 300) (N2 := N + 2) hw hS2.1 hS2.2.1 hS2.2.2 (fb_up hw.fb (.inl rfl)) (by omega) (by omega) (by omega), hO, rfl, rfl⟩
theorem do_cp (h_ : AW a A on S f0 f1 g0 g1 58 b N E c many Sn) (hc : c ≤ 50) (hN : N ≤ 1000) (hb : b ≤ 1000000) (hO : O.ok 1 Sn.length (intL Sn)) {k d e : Int} {l t : Nat} {s : ByteArray} (hd : d = 0 ∨ d = 1) (hl : l < 64) (he : e = 0 ∨ e = 1) (ht : t < 64) (hk : k = 6 ∨ k = 7) :
 Fnc Tryz.prog 31 [pt wn, actV k d l e t s] (awM a on wn A B S (dz f0 f1) (dz g0 g1) O Sn) (DoQ a on wn b E c N many) := by
 have w1 := w_store (a := a) (A := A) (B := B) (S := S)
 have w2 := w_wait0 (a := a) (A := A) (B := B) (S := S)
 have w3 := w_wait1 (a := a) (A := A) (B := B) (S := S)
 have w4 := w_commitK (B := B) h_.wk (by omega) (by omega) (by omega)
 have w5 := data_ s
 have hs48 := dat48_size s
 unfold awM
 rcases hk with rfl | rfl
 all_goals rcases (show 50 < S.V.t0.sheet.length ∨ (S.V.t0.sheet.length ≤ 50 ∧ 50 < S.V.t1.sheet.length) ∨ (S.V.t0.sheet.length ≤ 50 ∧ S.V.t1.sheet.length ≤ 50) by omega) with p1 | ⟨p1, p2⟩ | ⟨p1, p2⟩
 all_goals
  refine fn_intro Tryz.func31 (by kernel_rfl) ?_
  repeat' ((conv => whnf); first
   | refine ld1_row (n := wn) wdS_2 ?_ | refine call_gr w1 (.one takeE) ?_ | refine call_gr w2 (.one takeE) ?_ | refine call_gr w3 (.one takeE) ?_ | refine ldN_row (n := wn) _ wdS_m (rowS_len _) ?_ | refine force_of ?_ | (refine need ?_ ?_; exact rowS_len _) | refine ss_o ?_ | (refine call_g w4 (.one takeE) (fun e A' hq => ?_); obtain ⟨A1, S1, a1, ⟨k1, k2⟩, e1, e2⟩ := hq; subst e1; subst e2) | refine call_val w5 ?_ | refine ld1_lit ?_ | refine nw (fun n => ?_) | (refine ifs (fun h => ?_) (fun h => ?_) <;> try (exfalso; first | omega | with_reducible first | contradiction | exact h rfl)))
  all_goals (conv => whnf)
  all_goals first
   | (have hw := aw_com h_ k1 k2 hc) | (have hw := aw_50 h_ p1 p2 hc; rename StoA => A1; rename Sy => S1)
  all_goals
   have hq := (FB.fs hw.fb.1 hw.fb.2 d) l hl
   have c1 := w_copyK (B := B) hw.wk hd hl he ht (fb_sz (FB.fs hw.fb.1 hw.fb.2 d) hl) (by omega) (by omega)
   have hda := dz_at f0 f1 hd hl
   obtain ⟨q, eq⟩ : ∃ q, q = fs f0 f1 d l := ⟨_, rfl⟩
   rw [← eq] at c1 hq hda
   have hdz := dz_up f0 f1 he ht hda.symm
   repeat' ((conv => whnf); first
    | refine draw_any 23 [(0, true), (1, true), (3, true), (5, true), (6, true), (8, true), (10, true), (11, true), (15, true), (16, true), (2, true), (17, true), (4, true), (7, true), (12, true), (9, false), (13, true), (14, false), (18, true), (19, false)] [⟨n, _⟩] rfl (by kernel_rfl) (kept_of (.cons takeC .nil) ?_) | refine draw_any 24 [(0, true), (1, true), (2, true), (4, true), (6, true), (8, true), (10, true), (3, true), (5, true), (7, true), (9, true), (11, false), (12, false), (13, true), (14, true)] [⟨wn, _⟩, ⟨n, _⟩] rfl (by kernel_rfl) (kept_of (.cons takeC (.cons takeC .nil)) ?_) | refine kept_of (.cons takeC (.cons takeC .nil)) ?_ | refine kept_of (.cons takeC .nil) ?_ | refine fld1_row (n := wn) wdS_2 ?_ | refine fld1 ?_ | refine ld1_row (n := wn) (wdS_a (i := 64 * d.toNat + l) (by omega) (by omega)) ?_ | (refine ss_m (i := 64 * e.toNat + t) (by omega) (by omega) ?_; rw [hdz]) | refine call_a c1 (.one takeE) (fun S2 hS2 => ?_) | (refine nv (fun z hz => ?_); (try simp at hz); replace hz := hz.symm; subst hz) | refine need (by omega) ?_ | refine ld1_lit ?_ | refine need (by first | rfl | omega) ?_ | (refine ifs (fun h => ?_) (fun h => ?_) <;> try (exfalso; first | omega | with_reducible first | contradiction | exact h rfl)))
   all_goals (conv => whnf)
   all_goals exact fin_g (A := ⟨wn, _⟩ :: (Own.blk O _ _ ++ syM a A1 B S2)) (.blk takeC (.grp takeE (.one takeE))) ⟨A1, B, S2, _, _, _, _, O, _, aw_k (b2 := b + 300) (N2 := N + 2) hw hS2.1 hS2.2.1 hS2.2.2 (fb_up hw.fb hq) (by omega) (by omega) (by omega), hO, rfl, rfl⟩
end Ad
namespace Ad
open Go Ev Sha Aes Orc Node Rec Chn Jrn Cau Sto Srt Stg Wld Bgn Ivs Ctr Aut Cmt
open Rig (Fnc_takeR RigP Rg rgM z64 app_of RigA crR)
open Tree (TreP TreA Tre treM TI Same updB)
variable {a : RigA} {A : StoA} {B : VA} {on wn : Nat} {S : Sy} {f0 f1 g0 g1 F G : Nat → ByteArray} {m b E c : Nat} {N : Int} {many : Int} {Sn : List Int} {O : Own}
attribute [local irreducible] wdS syM sysM z64 updB sealB z48 rowS dz keyT Bgn.keyS crR dat48
theorem do_8 (h_ : AW a A on S f0 f1 g0 g1 58 b N E c many Sn) (hc : c ≤ 50) (hN : N ≤ 1000) (hb : b ≤ 1000000) (hO : O.ok 1 Sn.length (intL Sn)) {k d e t : Int} {l : Nat} {s : ByteArray} (hd : d = 0 ∨ d = 1) (hl : l < 64) (hk : k = 8) :
 Fnc Tryz.prog 31 [pt wn, actV k d l e t s] (awM a on wn A B S (dz f0 f1) (dz g0 g1) O Sn) (DoQ a on wn b E c N many) := by
 have w1 := w_store (a := a) (A := A) (B := B) (S := S)
 have w2 := w_wait0 (a := a) (A := A) (B := B) (S := S)
 have w3 := w_wait1 (a := a) (A := A) (B := B) (S := S)
 have w4 := w_commitK (B := B) h_.wk (by omega) (by omega) (by omega)
 have w5 := data_ s
 have hs48 := dat48_size s
 unfold awM
 subst hk
 all_goals rcases (show 50 < S.V.t0.sheet.length ∨ (S.V.t0.sheet.length ≤ 50 ∧ 50 < S.V.t1.sheet.length) ∨ (S.V.t0.sheet.length ≤ 50 ∧ S.V.t1.sheet.length ≤ 50) by omega) with p1 | ⟨p1, p2⟩ | ⟨p1, p2⟩
 all_goals
  refine fn_intro Tryz.func31 (by kernel_rfl) ?_
  repeat' ((conv => whnf); first
   | refine ld1_row (n := wn) wdS_2 ?_ | refine call_gr w1 (.one takeE) ?_ | refine call_gr w2 (.one takeE) ?_ | refine call_gr w3 (.one takeE) ?_ | refine ldN_row (n := wn) _ wdS_m (rowS_len _) ?_ | refine force_of ?_ | (refine need ?_ ?_; exact rowS_len _) | refine ss_o ?_ | (refine call_g w4 (.one takeE) (fun e A' hq => ?_); obtain ⟨A1, S1, a1, ⟨k1, k2⟩, e1, e2⟩ := hq; subst e1; subst e2) | refine call_val w5 ?_ | refine ld1_lit ?_ | refine nw (fun n => ?_) | (refine ifs (fun h => ?_) (fun h => ?_) <;> try (exfalso; first | omega | with_reducible first | contradiction | exact h rfl)))
  all_goals (conv => whnf)
  all_goals first
   | (have hw := aw_com h_ k1 k2 hc) | (have hw := aw_50 h_ p1 p2 hc; rename StoA => A1; rename Sy => S1)
  all_goals
   have c1 := w_store (a := a) (A := A1) (B := B) (S := S1)
   have c2 := w_commitK (B := B) hw.wk (by omega) (by omega) (by omega)
   repeat' ((conv => whnf); first
    | refine call_gr c1 (.one takeE) ?_ | (refine call_g c2 (.one takeE) (fun e A' hq => ?_); obtain ⟨A2, S2, a2, ⟨l1, l2⟩, e1, e2⟩ := hq; subst e1; subst e2) | (refine ifs (fun h => ?_) (fun h => ?_) <;> try (exfalso; first | omega | with_reducible first | contradiction | exact h rfl)))
   all_goals (conv => whnf)
   all_goals first
    | exact fin_g (A := ⟨wn, _⟩ :: (Own.blk O _ _ ++ syM a A2 B S2)) (.blk takeC (.grp takeE (.one takeE))) ⟨A2, B, S2, _, _, _, _, O, _, ((aw_com hw l1 l2 hc).mono (by omega) (by omega) (by omega) (by omega) (by omega)), hO, rfl, rfl⟩ | exact fin_g (A := ⟨wn, _⟩ :: (Own.blk O _ _ ++ syM a A1 B S1)) (.blk takeC (.grp takeE (.one takeE))) ⟨A1, B, S1, _, _, _, _, O, _, (hw.mono (by omega) (by omega) (by omega) (by omega) (by omega)), hO, rfl, rfl⟩
theorem do_9 (h_ : AW a A on S f0 f1 g0 g1 58 b N E c many Sn) (hc : c ≤ 50) (hN : N ≤ 900) (hb : b ≤ 900000) (hO : O.ok 1 Sn.length (intL Sn)) {k d e t : Int} {l : Nat} {s : ByteArray} (hd : d = 0 ∨ d = 1) (hl : l < 64) (hmany : 1 ≤ many ∧ many ≤ 1099511627776) (hE : E ≤ 100) (hk : k = 9) :
 Fnc Tryz.prog 31 [pt wn, actV k d l e t s] (awM a on wn A B S (dz f0 f1) (dz g0 g1) O Sn) (DoQ a on wn b E c N many) := by
 have w1 := w_store (a := a) (A := A) (B := B) (S := S)
 have w2 := w_wait0 (a := a) (A := A) (B := B) (S := S)
 have w3 := w_wait1 (a := a) (A := A) (B := B) (S := S)
 have w4 := w_commitK (B := B) h_.wk (by omega) (by omega) (by omega)
 have w5 := data_ s
 have hs48 := dat48_size s
 unfold awM
 subst hk
 all_goals rcases (show 50 < S.V.t0.sheet.length ∨ (S.V.t0.sheet.length ≤ 50 ∧ 50 < S.V.t1.sheet.length) ∨ (S.V.t0.sheet.length ≤ 50 ∧ S.V.t1.sheet.length ≤ 50) by omega) with p1 | ⟨p1, p2⟩ | ⟨p1, p2⟩
 all_goals
  refine fn_intro Tryz.func31 (by kernel_rfl) ?_
  repeat' ((conv => whnf); first
   | refine ld1_row (n := wn) wdS_2 ?_ | refine call_gr w1 (.one takeE) ?_ | refine call_gr w2 (.one takeE) ?_ | refine call_gr w3 (.one takeE) ?_ | refine ldN_row (n := wn) _ wdS_m (rowS_len _) ?_ | refine force_of ?_ | (refine need ?_ ?_; exact rowS_len _) | refine ss_o ?_ | (refine call_g w4 (.one takeE) (fun e A' hq => ?_); obtain ⟨A1, S1, a1, ⟨k1, k2⟩, e1, e2⟩ := hq; subst e1; subst e2) | refine call_val w5 ?_ | refine ld1_lit ?_ | refine nw (fun n => ?_) | (refine ifs (fun h => ?_) (fun h => ?_) <;> try (exfalso; first | omega | with_reducible first | contradiction | exact h rfl)))
  all_goals (conv => whnf)
  all_goals first
   | (have hw := aw_com h_ k1 k2 hc) | (have hw := aw_50 h_ p1 p2 hc; rename StoA => A1; rename Sy => S1)
  all_goals
   have c1 := fun F G => again_ (B := B) (wn := wn) (F := F) (G := G) (O := O) hw hmany hE (by omega) (by omega)
   unfold awM at c1
   repeat' ((conv => whnf); first
    | (refine call_g (c1 _ _) (.blk takeC (.grp takeE (.one takeE))) (fun e A' hq => ?_); obtain ⟨A2, B2, S2, hw2, e1, e2⟩ := hq; subst e1; subst e2))
   all_goals (conv => whnf)
   all_goals exact fin_g (A := ⟨wn, _⟩ :: (Own.blk O _ _ ++ syM a A2 B2 S2)) (.blk takeC (.grp takeE (.one takeE))) ⟨A2, B2, S2, _, _, _, _, O, _, (hw2.mono (by omega) (by omega) (by omega) (by omega) (by omega)), hO, rfl, rfl⟩
theorem do_r (h_ : AW a A on S f0 f1 g0 g1 58 b N E c many Sn) (hc : c ≤ 50) (hN : N ≤ 1000) (hb : b ≤ 1000000) (hO : O.ok 1 Sn.length (intL Sn)) {k d e t : Int} {l : Nat} {s : ByteArray} (hd : d = 0 ∨ d = 1) (hl : l < 64) (hk : k ≠ 0 ∧ k ≠ 1 ∧ k ≠ 2 ∧ k ≠ 4 ∧ k ≠ 5 ∧ k ≠ 6 ∧ k ≠ 7 ∧ k ≠ 8 ∧ k ≠ 9) :
 Fnc Tryz.prog 31 [pt wn, actV k d l e t s] (awM a on wn A B S (dz f0 f1) (dz g0 g1) O Sn) (DoQ a on wn b E c N many) := by
 have w1 := w_store (a := a) (A := A) (B := B) (S := S)
 have w2 := w_wait0 (a := a) (A := A) (B := B) (S := S)
 have w3 := w_wait1 (a := a) (A := A) (B := B) (S := S)
 have w4 := w_commitK (B := B) h_.wk (by omega) (by omega) (by omega)
 have w5 := data_ s
 have hs48 := dat48_size s
 unfold awM
 all_goals rcases (show 50 < S.V.t0.sheet.length ∨ (S.V.t0.sheet.length ≤ 50 ∧ 50 < S.V.t1.sheet.length) ∨ (S.V.t0.sheet.length ≤ 50 ∧ S.V.t1.sheet.length ≤ 50) by omega) with p1 | ⟨p1, p2⟩ | ⟨p1, p2⟩
 all_goals
  refine fn_intro Tryz.func31 (by kernel_rfl) ?_
  repeat' ((conv => whnf); first
   | refine ld1_row (n := wn) wdS_2 ?_ | refine call_gr w1 (.one takeE) ?_ | refine call_gr w2 (.one takeE) ?_ | refine call_gr w3 (.one takeE) ?_ | refine ldN_row (n := wn) _ wdS_m (rowS_len _) ?_ | refine force_of ?_ | (refine need ?_ ?_; exact rowS_len _) | refine ss_o ?_ | (refine call_g w4 (.one takeE) (fun e A' hq => ?_); obtain ⟨A1, S1, a1, ⟨k1, k2⟩, e1, e2⟩ := hq; subst e1; subst e2) | refine call_val w5 ?_ | refine ld1_lit ?_ | refine nw (fun n => ?_) | (refine ifs (fun h => ?_) (fun h => ?_) <;> try (exfalso; first | omega | with_reducible first | contradiction | exact h rfl)))
  all_goals (conv => whnf)
  all_goals first
   | (have hw := aw_com h_ k1 k2 hc) | (have hw := aw_50 h_ p1 p2 hc; rename StoA => A1; rename Sy => S1)
  all_goals
   have c1 := w_readK (B := B) hw.wk hw.fb hd hl (by omega)
   rw [hw.key, ← dz_at f0 f1 hd hl] at c1
   repeat' ((conv => whnf); first
    | refine draw_any 30 [(0, true), (1, true), (2, true), (4, true), (6, true), (3, true), (5, true), (7, false), (8, false), (9, true), (10, true), (11, true), (12, true), (13, true)] [⟨wn, _⟩, ⟨n, _⟩] rfl (by kernel_rfl) (kept_of (.cons takeC (.cons takeC .nil)) ?_) | refine draw_any 31 [(0, true), (1, true), (2, true), (3, true), (4, true), (5, true), (7, true), (9, true), (10, true), (6, true), (11, true), (8, false), (12, true), (13, false), (14, true), (15, true), (16, true)] [⟨n, _⟩] rfl (by kernel_rfl) (kept_of (.cons takeC .nil) ?_) | refine kept_of (.cons takeC (.cons takeC .nil)) ?_ | refine kept_of (.cons takeC .nil) ?_ | refine fld1_row (n := wn) wdS_2 ?_ | refine fld1 ?_ | refine ld1_row (n := wn) (wdS_a (i := 64 * d.toNat + l) (by omega) (by omega)) ?_ | refine call_a c1 (.one takeE) (fun S2 hS2 => ?_) | refine ift rfl ?_ | (refine nv (fun z hz => ?_); (try simp at hz); replace hz := hz.symm; subst hz) | refine need (by omega) ?_ | refine ld1_lit ?_)
   all_goals (conv => whnf)
   all_goals exact fin_g (A := ⟨wn, _⟩ :: (Own.blk O _ _ ++ syM a A1 B S2)) (.blk takeC (.grp takeE (.one takeE))) ⟨A1, B, S2, _, _, _, _, O, _, aw_k (b2 := b + 300) (N2 := N + 2) hw hS2.1 hS2.2.1 hS2.2.2 hw.fb (by omega) (by omega) (by omega), hO, rfl, rfl⟩
end Ad
namespace Ad
open Go Ev Sha Aes Orc Node Rec Chn Jrn Cau Sto Srt Stg Wld Bgn Ivs Ctr Aut Cmt
open Rig (Fnc_takeR RigP Rg rgM z64 app_of RigA crR r0)
open Tree (TreP TreA Tre treM TI Same updB)
variable {a : RigA} {A : StoA} {B : VA} {on wn : Nat} {S : Sy} {f0 f1 g0 g1 F G : Nat → ByteArray} {m b E c : Nat} {N : Int} {many : Int} {Sn : List Int} {O : Own}
theorem do_ (h : AW a A on S f0 f1 g0 g1 58 b N E c many Sn) (hmany : 1 ≤ many ∧ many ≤ 1099511627776) (hE : E ≤ 100) (hc : c ≤ 50) (hN : N ≤ 900) (hb : b ≤ 900000) (hO : O.ok 1 Sn.length (intL Sn)) {k d l e t : Int} {s : ByteArray} (hf : fineB d l e t s) :
 Fnc Tryz.prog 31 [pt wn, actV k d l e t s] (awM a on wn A B S (dz f0 f1) (dz g0 g1) O Sn) (DoQ a on wn b E c N many) := by
 obtain ⟨⟨hd, hl0, hl⟩, ⟨he, ht0, ht⟩, hs⟩ := hf
 obtain ⟨l, rfl⟩ := Int.eq_ofNat_of_zero_le hl0
 obtain ⟨t, rfl⟩ := Int.eq_ofNat_of_zero_le ht0
 by_cases k0 : k = 0 ∨ k = 1 ∨ k = 2
 · by_cases hn : S.v.x.next < S.v.x.many
   · exact do_w h hc (by omega) (by omega) hO hd (by omega) k0 hn
   · exact do_x h hc (by omega) (by omega) hO hd (by omega) k0 (by omega)
 by_cases k4 : k = 4
 · exact do_p h hc (by omega) (by omega) hO hd (by omega) k4
 by_cases k5 : k = 5
 · exact do_c h hc (by omega) (by omega) hO hd (by omega) k5
 by_cases k6 : k = 6 ∨ k = 7
 · exact do_cp h hc (by omega) (by omega) hO hd (by omega) he (by omega) k6
 by_cases k8 : k = 8
 · exact do_8 h hc (by omega) (by omega) hO hd (by omega) k8
 by_cases k9 : k = 9
 · exact do_9 h hc (by omega) (by omega) hO hd (by omega) hmany hE k9
 exact do_r h hc (by omega) (by omega) hO hd (by omega) (by omega)
theorem mmk_at : ∀ (k i : Nat), k ≤ 64 → (i < k ∨ (64 ≤ i ∧ i < 64 + k)) → mmk k i = z48
 | 0, i, _, h => by omega
 | k + 1, i, hk, h => by
   rw [mmk_s]
   unfold updB
   by_cases h1 : i = 64 + k
   · rw [if_pos h1]
   rw [if_neg h1]
   by_cases h2 : i = k
   · rw [if_pos h2]
   rw [if_neg h2]
   exact mmk_at k i (by omega) (by omega)
theorem row_bg : rowS (mmk 64) = rowS (dz zf zf) := by
 unfold rowS
 refine List.map_congr_left fun i hi => ?_
 have hi := List.mem_range.1 hi
 rw [mmk_at 64 i (Nat.le_refl _) (by omega)]
 unfold dz zf
 rw [dat_z48]
 split <;> rfl
theorem aw_bg {A : StoA} {o : Orc} {V : StoV} (hok : SOk ⟨A, V⟩ a.rn o.on) (hV : V = fmV0 a.rn o.on 64 8 many (sup0 many)) (hlen : o.ts.length ≤ 2100) (hm : 1 ≤ many ∧ many ≤ 1099511627776) :
 AW a A o.on ⟨fmR r0 (sup0 many), o, V, ⟨keyT keyS, ⟨0, 0, many⟩, 0⟩⟩ zf zf zf zf 58 2100 0 1 0 many [] := by
 have hsz : (sup0 many).size = 64 := by unfold sup0 Geom.supS; rw [ByteArray.size_append]; unfold z32; rfl
 have hk := wk_new (k := keyT keyS) fine_0 hok hV rfl hm (by8_keyT keyS) hsz rfl
 refine ⟨hk.less (by subst hV; exact Nat.zero_le _) (by subst hV; exact Nat.zero_le _) (by show (0 : Int) ≤ ((58 : Nat) : Int); decide) hlen (by omega), ⟨zf_FB, zf_FB⟩, ⟨zf_FB, zf_FB⟩, ?_, ⟨rfl, by subst hV; rfl⟩, ?_, rfl, (fun n hn => (by cases hn)), Nat.le_refl _, (by show (0 : Int) ≤ ((0 : Nat) : Int); decide)⟩
 · subst hV
   exact ⟨by unfold sup0; rfl, right0 hm, by unfold z32; rfl⟩
 · subst hV
   show (0 : Int) ≤ 1 ∧ (1 : Int) ≤ ((1 : Nat) : Int)
   decide
theorem wd_bg {rn on : Nat} {vp : Option Addr} : wdC rn on vp (mmk 64) (mmk 64) = wdS rn on vp (dz zf zf) (dz zf zf) (.slice none 0 0) := by
 rw [← wdS_e]; unfold wdS; rw [row_bg]
attribute [local irreducible] wdS syM sysM z64 updB sealB z48 rowS dz keyT Bgn.keyS crR dat48 mmk sup0 fmV0 fmR fmT
theorem begunK (hm : 1 ≤ many ∧ many ≤ 1099511627776) : Fnc Tryz.prog 28 [.int .i64 many] [] (fun e M => ∃ (wn on : Nat) (a : RigA) (A : StoA) (B : VA) (S : Sy), AW a A on S zf zf zf zf 58 2100 0 1 0 many [] ∧ e = .returned (pt wn) ∧ M = awM a on wn A B S (dz zf zf) (dz zf zf) .nil []) := by
 refine Fnc_mono (begunF many hm) ?_
 rintro e M ⟨wn, a, A, B, S, f, g, h1, h2, h3, h4, h5, h6, h7, h8, h9⟩
 obtain ⟨r, o, V, v⟩ := S
 dsimp only at h2 h4 h5
 subst h2; subst h5; subst h6; subst h7
 refine ⟨wn, o.on, a, A, B, _, aw_bg h1.sok h4 h1.len hm, h8, ?_⟩
 rw [h9]
 unfold awM
 have e : (wdB wn a.rn o.on (some ⟨B.vn, 0, none⟩) (mmk 64) (mmk 64) : Blk) = wsB wn a.rn o.on (some ⟨B.vn, 0, none⟩) (dz zf zf) (dz zf zf) (.slice none 0 0) := by
  unfold wdB wsB
  rw [wd_bg]
 rw [show (wdB wn a.rn (Sy.o ⟨fmR r0 (sup0 many), o, V, ⟨keyT keyS, ⟨0, 0, many⟩, 0⟩⟩).on (some ⟨B.vn, 0, none⟩) (mmk 64) (mmk 64) : Blk) = _ from e]
 rfl
end Ad
namespace Ad
open Go Ev Sha Aes Orc Node Rec Chn Jrn Cau Sto Srt Stg Wld Bgn Ivs Ctr Aut Cmt
open Rig (Fnc_takeR RigP Rg rgM z64 app_of RigA crR r0)
open Tree (TreP TreA Tre treM TI Same updB)
variable {a : RigA} {A : StoA} {B : VA} {on wn : Nat} {S : Sy} {f0 f1 g0 g1 F G : Nat → ByteArray} {m b E c : Nat} {N : Int} {many : Int} {Sn : List Int} {O : Own}
structure Act where
 k : Int
 d : Int
 l : Int
 e : Int
 t : Int
 s : ByteArray
abbrev aL (a : Act) : List Value := actL a.k a.d a.l a.e a.t a.s
def aLs (l : List Act) : List Value := (l.map aL).flatten
theorem aL_len {l : List Act} : ∀ x ∈ l.map aL, x.length = 6 := by
 intro x hx; obtain ⟨p, _, rfl⟩ := List.mem_map.1 hx; rfl
theorem aL_at {l : List Act} {i : Nat} {a : Act} (h : l[i]? = some a) : ∀ j v, (aL a)[j]? = some v → (aLs l)[i * 6 + j]? = some v := by
 intro j v hj
 have hjl := (List.getElem?_eq_some_iff.1 hj).1
 rw [← hj]
 exact flat_get (aL_len (l := l)) (by rw [List.getElem?_map, h]; rfl) hjl
theorem ldN_ro {M : List Blk} {n off o q m : Nat} {cs : List Value} {K : List Value → Prop} [h : Look M n (.ro o cs)] (l : List Value) (ho : off = o + q) (hl : ∀ j v, l[j]? = some v → cs[q + j]? = some v) (hm : l.length = m) (hk : K l) : LdN M n off m K := by
 refine ⟨fun A w0 w st => ⟨l, hm, fun j v hj => ?_, hk⟩⟩
 have := st.has _ h.mem
 simp only [Blk.holds] at this
 rw [ho, Nat.add_assoc]
 exact this.2 (q + j) v (hl j v hj)
theorem act_of {H : Type} {enc : TypeId × Value → H} {w : World} {base : Nat} {spare : Nat → Bool} {held : Bool} {r : List Value}
 (h : r.length = 6 ∧ ∃ n y, DataW.trod enc Tryz.prog w base spare held n 74 r = some y) : ∃ a : Act, r = aL a ∧ True := by
 obtain ⟨_, n, y, h⟩ := h
 obtain ⟨k, d, l, e, t, s, hc⟩ := act_in (trod_fits 3 _ _ kAct cellsAct n r y h)
 exact ⟨⟨k, d, l, e, t, s⟩, hc, trivial⟩
theorem dz_0 (f0 f1 : Nat → ByteArray) {j : Nat} (hj : j < 64) : dz f0 f1 j = dat (keyT keyS) (f0 j) := by unfold dz; rw [if_pos hj]
theorem dz_1 (f0 f1 : Nat → ByteArray) {j : Nat} (hj : j < 64) : dz f0 f1 (64 + j) = dat (keyT keyS) (f1 j) := by unfold dz; rw [if_neg (by omega), show 64 + j - 64 = j by omega]
theorem aw_s {S3 : Sy} {b1 : Nat} (h : AW a A on S f0 f1 g0 g1 m b N E c many Sn) (k : WK a A on S3 f0 f1 m b1 N g0 g1) (hv : S3.v = S.v) (hs : Sm S.V S3.V) : AW a A on S3 f0 f1 g0 g1 m b1 N E c many Sn :=
 ⟨k, h.fb, h.gb, by rw [hs.g0, hs.g1, hs.g2, hs.s]; exact h.su, by rw [hv, hs.g2]; exact h.mn, by rw [hs.i]; exact h.ep, by rw [hv]; exact h.key, by rw [hv]; exact h.sn, h.ln, by rw [hv]; exact h.vn⟩
attribute [local irreducible] wdS syM sysM z64 updB sealB z48 rowS dz keyT Bgn.keyS crR dat48 mmk sup0 fmV0 fmR fmT aLs
def LpI (a : RigA) (on wn : Nat) (many : Int) (i : Nat) (R : List Blk) (M : List Blk) : Prop := ∃ A B S f0 f1 g0 g1 O Sn, AW a A on S f0 f1 g0 g1 58 (2100 + 300 * i) (2 * i) (1 + i) i many Sn ∧ O.ok 1 Sn.length (intL Sn) ∧ M = awM a on wn A B S (dz f0 f1) (dz g0 g1) O Sn ++ R
theorem authDoes (l : List Act) (S0 : Sl) (hS : S0.ok l.length) (hl : l.length ≤ 9223372036854775807) :
 Fnc Tryz.prog 5 [S0.val l.length] (S0.blk (aLs l)) (Ret (.bool true) (S0.blk (aLs l))) := by
 have h1 := begunK (many := 1099511627776) ⟨by decide, by decide⟩
 refine fn_intro Tryz.func5 (by kernel_rfl) ?_
 repeat' ((conv => whnf); first
  | (refine call_g h1 .nil (fun e A' hq => ?_); obtain ⟨wn, on, a, A, B, S, hw, e1, e2⟩ := hq; subst e1; subst e2) | refine call_val awake_ ?_)
 all_goals (conv => whnf)
 refine loop_rule [4] (fun vs M m => ∃ (i : Nat), vs = [.int .i64 i] ∧ i ≤ l.length ∧ i ≤ 30 ∧ m = l.length - i ∧ LpI a on wn 1099511627776 i (S0.blk (aLs l)) M) rfl ?_ ?_
 · exact fin_all ⟨_, 0, rfl, by omega, by omega, rfl, A, B, S, zf, zf, zf, zf, .nil, [], hw, ⟨rfl, rfl⟩, rfl⟩
 rintro vs junk1 M' m ⟨i, rfl, hi, hi3, rfl, A, B, S, f0, f1, g0, g1, O, Sn, hw, hO, rfl⟩
 by_cases hx : i < l.length ∧ i < 30
 · obtain ⟨x, hxi⟩ : ∃ x, l[i]? = some x := ⟨_, List.getElem?_eq_getElem hx.1⟩
   have hf := fine_ x.k x.d x.l x.e x.t x.s
   rcases S0 with ⟨p, c⟩ | ⟨b, off, cap9⟩
   · exfalso
     have hS : l.length = 0 := hS
     omega
   by_cases hb : fineB x.d x.l x.e x.t x.s
   · rw [decide_eq_true hb] at hf
     have hd := do_ (B := B) (wn := wn) (O := O) (k := x.k) hw ⟨by decide, by decide⟩ (by omega) (by omega) (by omega) (by omega) hO hb
     unfold awM at hd ⊢
     repeat' ((conv => whnf); first
      | refine ldN_ro (o := off) (cs := aLs l) (q := i * 6) (aL x) rfl (aL_at hxi) rfl ?_ | refine call_val hf ?_ | (refine call_g hd (.blk takeC (.grp takeE (.one takeE))) (fun e A' hq => ?_); obtain ⟨A1, B1, S1, p0, p1, q0, q1, O1, Sn1, hw1, hO1, e1, e2⟩ := hq; subst e1; subst e2) | refine need (by omega) ?_ | (refine nv (fun z hz => ?_); (try simp at hz); replace hz := hz.symm; subst hz) | (refine wr (fun z hz => ?_); (try rw [Int.tdiv_eq_ediv_of_nonneg (by omega)] at hz); rw [w64 (by omega) (by omega)] at hz; subst hz) | (refine ifs (fun h => ?_) (fun h => ?_) <;> try (exfalso; first | omega | with_reducible first | contradiction | exact h rfl)))
     all_goals (conv => whnf)
     all_goals exact ⟨rfl, fin_all ⟨l.length - (i + 1), by omega, i + 1, rfl, by omega, by omega, rfl, A1, B1, S1, _, _, _, _, O1, Sn1, hw1.mono (by omega) (by omega) (by omega) (by omega) (by omega), hO1, rfl⟩⟩
   · rw [decide_eq_false hb] at hf
     unfold awM
     repeat' ((conv => whnf); first
      | refine ldN_ro (o := off) (cs := aLs l) (q := i * 6) (aL x) rfl (aL_at hxi) rfl ?_ | refine call_val hf ?_ | refine need (by omega) ?_ | (refine nv (fun z hz => ?_); (try simp at hz); replace hz := hz.symm; subst hz) | (refine wr (fun z hz => ?_); (try rw [Int.tdiv_eq_ediv_of_nonneg (by omega)] at hz); rw [w64 (by omega) (by omega)] at hz; subst hz) | (refine ifs (fun h => ?_) (fun h => ?_) <;> try (exfalso; first | omega | with_reducible first | contradiction | exact h rfl)))
     all_goals (conv => whnf)
     all_goals exact ⟨rfl, fin_g (A := ⟨wn, _⟩ :: (Own.blk O _ _ ++ (syM a A B S ++ (Sl.at_ b off cap9).blk (aLs l)))) (.blk takeC (.grp takeE (.grp takeE (.one takeE)))) ⟨l.length - (i + 1), by omega, i + 1, rfl, by omega, by omega, rfl, A, B, S, _, _, _, _, O, Sn, hw.mono (by omega) (by omega) (by omega) (by omega) (by omega), hO, by (try unfold awM); (try simp only [List.cons_append, List.append_assoc]); (first | done | rfl)⟩⟩
 · unfold awM
   repeat' ((conv => whnf); first
    | (refine ifs (fun h => ?_) (fun h => ?_) <;> try (exfalso; first | omega | with_reducible first | contradiction | exact h rfl)))
   all_goals (conv => whnf)
   all_goals
    refine loop_rule [5] (fun vs M m => ∃ (j : Nat) (S' : Sy), vs = [.int .i64 j] ∧ j ≤ 64 ∧ m = 64 - j ∧ AW a A on S' f0 f1 g0 g1 58 (20000 + 14 * j) (2 * i) (1 + i) i 1099511627776 Sn ∧ M = awM a on wn A B S' (dz f0 f1) (dz g0 g1) O Sn ++ S0.blk (aLs l)) rfl ?_ ?_
    · exact fin_all ⟨_, 0, S, rfl, by omega, rfl, hw.mono (by omega) (by omega) (by omega) (by omega) (by omega), by unfold awM; simp only [List.cons_append, List.append_assoc]⟩
    rintro vs junk2 M' m ⟨j, S', rfl, hj, rfl, hv, rfl⟩
    by_cases hj6 : j < 64
    · have c1 := w_readK (B := B) hv.wk hv.fb (d := 0) (l := j) (.inl rfl) hj6 (by omega)
      rw [hv.key, fs_0, ← dz_0 f0 f1 hj6] at c1
      have c2 : ∀ S1 : Sy, WK a A on S1 f0 f1 58 (20000 + 14 * j + 7) (2 * i) g0 g1 ∧ S1.v = S'.v ∧ Sm S'.V S1.V → Fnc Tryz.prog 32 [pt B.vn, .int .i64 1, .int .i64 j] (syM a A B S1) (AQ a A B (fun S2 => WK a A on S2 f0 f1 58 (20000 + 14 * j + 7 + 7) (2 * i) g0 g1 ∧ S2.v = S1.v ∧ Sm S1.V S2.V) (.tuple #[.string (dz f0 f1 (64 + j)), .int .i64 0])) := fun S1 h1 => by
       have := w_readK (B := B) h1.1 hv.fb (d := 1) (l := j) (.inr rfl) hj6 (by omega)
       rw [h1.2.1, hv.key, fs_1, ← dz_1 f0 f1 hj6] at this
       rw [h1.2.1]
       exact this
      unfold awM
      repeat' ((conv => whnf); first
       | refine ld1_row (n := wn) wdS_2 ?_ | refine ld1_row (n := wn) (wdS_a (i := j) (by omega) (by omega)) ?_ | refine ld1_row (n := wn) (wdS_a (i := 64 + j) (by omega) (by omega)) ?_ | refine call_a c1 (.one takeE) (fun S1 hS1 => ?_) | refine call_a (c2 S1 hS1) (.one takeE) (fun S2 hS2 => ?_) | refine ift rfl ?_ | (refine nv (fun z hz => ?_); (try simp at hz); replace hz := hz.symm; subst hz) | refine need (by omega) ?_ | (refine wr (fun z hz => ?_); (try rw [Int.tdiv_eq_ediv_of_nonneg (by omega)] at hz); rw [w64 (by omega) (by omega)] at hz; subst hz) | (refine ifs (fun h => ?_) (fun h => ?_) <;> try (exfalso; first | omega | with_reducible first | contradiction | exact h rfl)))
      all_goals (conv => whnf)
      all_goals exact ⟨rfl, fin_g (A := ⟨wn, _⟩ :: (Own.blk O _ _ ++ (syM a A B S2 ++ S0.blk (aLs l)))) (.blk takeC (.grp takeE (.grp takeE (.one takeE)))) ⟨64 - (j + 1), by omega, j + 1, S2, rfl, by omega, rfl, (aw_s hv hS2.1 (hS2.2.1.trans hS1.2.1) (hS1.2.2.trans hS2.2.2)).mono (by omega) (by omega) (by omega) (by omega) (by omega), by (try unfold awM); (try simp only [List.cons_append, List.append_assoc]); (first | done | rfl)⟩⟩
    · unfold awM
      repeat' ((conv => whnf); first
       | (refine ifs (fun h => ?_) (fun h => ?_) <;> try (exfalso; first | omega | with_reducible first | contradiction | exact h rfl)))
      all_goals (conv => whnf)
      all_goals exact fin_g (A := S0.blk (aLs l)) (.one takeE) ⟨rfl, rfl⟩
end Ad
namespace Ad
open Go Ev Sha Aes Orc Node Rec Chn Jrn Cau Sto Srt Stg Wld Bgn Ivs Ctr Aut Cmt
open Rig (Fnc_takeR RigP Rg rgM z64 app_of RigA crR r0)
open Tree (TreP TreA Tre treM TI Same updB)
attribute [local irreducible] wdS syM sysM z64 updB sealB z48 rowS dz keyT Bgn.keyS crR dat48 mmk sup0 fmV0 fmR fmT aLs
theorem own_a {g cap : Nat} {jk xs : List Value} {e : TypeId} : (Own.at_ g cap jk).blk e xs = [⟨g, .row (xs ++ jk) e⟩] := rfl
theorem intL_at {l : List Int} {k : Nat} {x : Int} {jk : List Value} (h : l[k]? = some x) : (intL l ++ jk)[k]? = some (.int .i64 x) := by
 have hk := (List.getElem?_eq_some_iff.1 h).1
 rw [List.getElem?_append_left (by rw [intL_len]; exact hk)]
 unfold intL; rw [List.getElem?_map, h]; rfl
theorem authOnce (n : Int) (hn : 0 ≤ n ∧ n ≤ 255) (l : List Act) (S0 : Sl) (hS : S0.ok l.length) (hl : l.length ≤ 9223372036854775807) :
 Fnc Tryz.prog 6 [.int .u8 n, S0.val l.length] (S0.blk (aLs l)) (Ret (.bool true) (S0.blk (aLs l))) := by
 have hr : 0 ≤ n % 60 ∧ n % 60 < 60 := by omega
 have hmany : 1 ≤ n % 60 + 1 ∧ n % 60 + 1 ≤ 1099511627776 := by omega
 have h1 := begunK (many := n % 60 + 1) hmany
 refine fn_intro Tryz.func6 (by kernel_rfl) ?_
 repeat' ((conv => whnf); first
  | (refine call_g h1 .nil (fun e A' hq => ?_); obtain ⟨wn, on, a, A, B, S, hw, e1, e2⟩ := hq; subst e1; subst e2) | refine call_val awake_ ?_ | refine need (by first | rfl | omega) ?_ | (refine wr (fun z hz => ?_); (try rw [Int.tdiv_eq_ediv_of_nonneg (by omega)] at hz); rw [w64 (by omega) (by omega)] at hz; subst hz) | (refine zv (fun z hz => ?_); (try rw [Int.tmod_eq_emod_of_nonneg (by omega)] at hz); subst hz))
 all_goals (conv => whnf)
 refine loop_rule [6] (fun vs M m => ∃ (i : Nat), vs = [.int .i64 i] ∧ i ≤ l.length ∧ i ≤ 40 ∧ m = l.length - i ∧ LpI a on wn (n % 60 + 1) i (S0.blk (aLs l)) M) rfl ?_ ?_
 · exact fin_all ⟨_, 0, rfl, by omega, by omega, rfl, A, B, S, zf, zf, zf, zf, .nil, [], hw, ⟨rfl, rfl⟩, rfl⟩
 rintro vs junk1 M' m ⟨i, rfl, hi, hi3, rfl, A, B, S, f0, f1, g0, g1, O, Sn, hw, hO, rfl⟩
 by_cases hx : i < l.length ∧ i < 40
 · obtain ⟨x, hxi⟩ : ∃ x, l[i]? = some x := ⟨_, List.getElem?_eq_getElem hx.1⟩
   have hf := fun k => fine_ k x.d x.l x.e x.t x.s
   rcases S0 with ⟨p, c⟩ | ⟨b, off, cap9⟩
   · exfalso
     have hS : l.length = 0 := hS
     omega
   by_cases hb : fineB x.d x.l x.e x.t x.s
   · rw [decide_eq_true hb] at hf
     have hd := fun k => do_ (B := B) (wn := wn) (O := O) (k := k) hw hmany (by omega) (by omega) (by omega) (by omega) hO hb
     unfold awM at hd ⊢
     by_cases hk4 : x.k = 4
     all_goals
      repeat' ((conv => whnf); first
       | refine ldN_ro (o := off) (cs := aLs l) (q := i * 6) (aL x) rfl (aL_at hxi) rfl ?_ | refine call_val (hf _) ?_ | (refine call_g (hd _) (.blk takeC (.grp takeE (.one takeE))) (fun e A' hq => ?_); obtain ⟨A1, B1, S1, p0, p1, q0, q1, O1, Sn1, hw1, hO1, e1, e2⟩ := hq; subst e1; subst e2) | refine need (by omega) ?_ | (refine nv (fun z hz => ?_); (try simp at hz); replace hz := hz.symm; subst hz) | refine ld1_lit ?_ | refine ldN_lit ?_ | refine nw (fun n => ?_) | refine st_lit rfl ?_ | refine need (by first | rfl | omega) ?_ | (refine wr (fun z hz => ?_); (try rw [Int.tdiv_eq_ediv_of_nonneg (by omega)] at hz); rw [w64 (by omega) (by omega)] at hz; subst hz) | (refine ifs (fun h => ?_) (fun h => ?_) <;> try (exfalso; first | omega | with_reducible first | contradiction | exact h rfl)))
      all_goals (conv => whnf)
      all_goals exact ⟨rfl, fin_g (A := awM a on wn A1 B1 S1 _ _ O1 Sn1 ++ (Sl.at_ b off cap9).blk (aLs l)) (.grp takeE (.one takeE)) ⟨l.length - (i + 1), by omega, i + 1, rfl, by omega, by omega, rfl, A1, B1, S1, _, _, _, _, O1, Sn1, hw1.mono (by omega) (by omega) (by omega) (by omega) (by omega), hO1, rfl⟩⟩
   · rw [decide_eq_false hb] at hf
     unfold awM
     repeat' ((conv => whnf); first
      | refine ldN_ro (o := off) (cs := aLs l) (q := i * 6) (aL x) rfl (aL_at hxi) rfl ?_ | refine call_val (hf _) ?_ | refine need (by omega) ?_ | (refine nv (fun z hz => ?_); (try simp at hz); replace hz := hz.symm; subst hz) | refine ldN_lit ?_ | refine nw (fun n => ?_) | refine st_lit rfl ?_ | refine need (by first | rfl | omega) ?_ | (refine wr (fun z hz => ?_); (try rw [Int.tdiv_eq_ediv_of_nonneg (by omega)] at hz); rw [w64 (by omega) (by omega)] at hz; subst hz) | (refine ifs (fun h => ?_) (fun h => ?_) <;> try (exfalso; first | omega | with_reducible first | contradiction | exact h rfl)))
     all_goals (conv => whnf)
     all_goals exact ⟨rfl, fin_g (A := ⟨wn, _⟩ :: (Own.blk O _ _ ++ (syM a A B S ++ (Sl.at_ b off cap9).blk (aLs l)))) (.blk takeC (.grp takeE (.grp takeE (.one takeE)))) ⟨l.length - (i + 1), by omega, i + 1, rfl, by omega, by omega, rfl, A, B, S, _, _, _, _, O, Sn, hw.mono (by omega) (by omega) (by omega) (by omega) (by omega), hO, by (try unfold awM); (try simp only [List.cons_append, List.append_assoc]); (first | done | rfl)⟩⟩
 · unfold awM
   repeat' ((conv => whnf); first
    | (refine ifs (fun h => ?_) (fun h => ?_) <;> try (exfalso; first | omega | with_reducible first | contradiction | exact h rfl)))
   all_goals (conv => whnf)
   all_goals
    have hrow := hw.wk.wj.wi.vok.row
    unfold rowOk at hrow
    have hmn := hw.mn.1
    have hln := hw.ln
    refine loop_rule [8] (fun vs M m => ∃ (j : Nat), vs = [.int .i64 j] ∧ j ≤ Sn.length ∧ m = Sn.length - j ∧ M = wsB wn a.rn on (some ⟨B.vn, 0, none⟩) (dz f0 f1) (dz g0 g1) (O.val Sn.length) :: (O.blk 3 (intL Sn) ++ (syM a A B S ++ S0.blk (aLs l)))) rfl ?_ ?_
    · exact fin_all ⟨_, 0, rfl, Nat.zero_le _, rfl, by (try simp only [List.cons_append, List.append_assoc]); (first | done | rfl)⟩
    rintro vs junk2 M' m ⟨j, rfl, hj, rfl, rfl⟩
    by_cases hj6 : j < Sn.length
    · have hxj : Sn[j]? = some Sn[j] := List.getElem?_eq_getElem hj6
      have hsn := hw.sn Sn[j] (List.getElem_mem hj6)
      obtain ⟨x, ex⟩ : ∃ x, x = Sn[j] := ⟨_, rfl⟩
      rw [← ex] at hxj hsn
      rcases O with _ | ⟨g, cap, jk⟩
      · exfalso
        have h0 : Sn.length = 0 := hO.2
        omega
      have hc := hO.2
      rw [own_a]
      repeat' ((conv => whnf); first
       | refine ld1_row (n := wn) wdS_sv ?_ | refine ld1_row (n := g) (intL_at hxj) ?_ | (refine nv (fun z hz => ?_); (try simp at hz); replace hz := hz.symm; subst hz) | refine need (by omega) ?_ | (refine wr (fun z hz => ?_); (try rw [Int.tdiv_eq_ediv_of_nonneg (by omega)] at hz); rw [w64 (by omega) (by omega)] at hz; subst hz) | (refine zv (fun z hz => ?_); (try rw [Int.tmod_eq_emod_of_nonneg (by omega)] at hz); subst hz) | (refine ifs (fun h => ?_) (fun h => ?_) <;> try (exfalso; first | omega | with_reducible first | contradiction | exact h rfl)))
      all_goals (conv => whnf)
      all_goals exact ⟨rfl, fin_g (A := ⟨wn, _⟩ :: ([⟨g, _⟩] ++ (syM a A B S ++ S0.blk (aLs l)))) (.blk takeC (.blk takeC (.grp takeE (.one takeE)))) ⟨Sn.length - (j + 1), by omega, j + 1, rfl, by omega, rfl, rfl⟩⟩
    · repeat' ((conv => whnf); first
       | refine ld1_row (n := wn) wdS_sv ?_ | (refine ifs (fun h => ?_) (fun h => ?_) <;> try (exfalso; first | omega | with_reducible first | contradiction | exact h rfl)))
      all_goals (conv => whnf)
      all_goals exact fin_g (A := S0.blk (aLs l)) (.one takeE) ⟨rfl, rfl⟩
end Ad
end Go.Proofs.YtkjamonkohpcnaaGreat
