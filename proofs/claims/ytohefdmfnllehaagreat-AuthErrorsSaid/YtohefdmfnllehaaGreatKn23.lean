/- Leaves that there are not, data that are not 48 bytes, blocks that are none are refused: the walk. -/
import Derived.Test.YtohefdmfnllehaaGreatKn22
namespace Go.Proofs.YtohefdmfnllehaaGreat.Bgn
open Go Ev Sha Aes Orc Node Rec Chn Jrn Cau Sto Ivs Ctr Aut Wld
open Rig (Fnc_takeR RigP Rg rgM z64 app_of RigA r0)
open Tree (TreP TreA Tre treM TI Same updB)
set_option linter.unusedVariables false
set_option linter.unusedSimpArgs false
set_option maxRecDepth 100000
/-- A state whose leaves have blocks that may be. -/
def WF (a : RigA) (A : StoA) (on : Nat) (m b : Nat) (S : Sy) : Prop := ∃ f0 f1 : Nat → ByteArray, WI a A on S f0 f1 m b ∧ FB f0 ∧ FB f1
theorem pl_cases (d l : Int) : ((d ≠ 0 ∧ d ≠ 1) ∧ plE d l = 2) ∨ ((d = 0 ∨ d = 1) ∧ (l < 0 ∨ 63 < l) ∧ plE d l = 3) ∨ ((d = 0 ∨ d = 1) ∧ (0 ≤ l ∧ l < 64) ∧ plE d l = 0) := by
  unfold plE; split
  · left; refine ⟨by assumption, rfl⟩
  · split
    · right; left; exact ⟨by omega, by assumption, rfl⟩
    · right; right; exact ⟨by omega, by omega, rfl⟩
theorem nat_of {l : Int} (h : 0 ≤ l ∧ l < 64) : ∃ k : Nat, k < 64 ∧ l = (k : Int) := ⟨l.toNat, by omega, by omega⟩
section
variable {a : RigA} {A : StoA} {B : VA} {on : Nat} {S : Sy} {m b : Nat}
theorem WF.mono {m' b' : Nat} (h : WF a A on m b S) (hm : m ≤ m') (hb : b ≤ b') : WF a A on m' b' S := by
  obtain ⟨f0, f1, h1, h2, h3⟩ := h
  exact ⟨f0, f1, WI.mono h1 hm hb, h2, h3⟩
theorem FB.size {f : Nat → ByteArray} (h : FB f) {l : Nat} (hl : l < 64) : (f l).size = 64 := by
  rcases h l hl with h1 | h1
  · rw [h1]; exact Node.z64_size
  · exact h1.1
theorem aq_mono {P : Program} {f : FuncId} {args : List Value} {Q Q' : Sy → Prop} {v : Value} (h : Fnc P f args (syM a A B S) (AQ a A B Q v)) (hq : ∀ S', Q S' → Q' S') : Fnc P f args (syM a A B S) (AQ a A B Q' v) :=
  Fnc_mono h fun e M ⟨S', h1, h2, h3⟩ => ⟨S', hq S' h1, h2, h3⟩
theorem e_read (h : WF a A on m b S) (d l : Int) (hb : b ≤ 1099511610000) :
    ∃ x, Fnc Tryz.prog 17 [pt B.vn, .int .i64 d, .int .i64 l] (syM a A B S) (AQ a A B (fun S' => WF a A on m (b + 7) S' ∧ S'.v = S.v) (.tuple #[.string x, .int .i64 (plE d l)])) := by
  obtain ⟨f0, f1, h1, h2, h3⟩ := h
  by_cases hp : plE d l = 0
  · obtain ⟨hd, hl⟩ := plE_0 hp
    obtain ⟨k, hk, rfl⟩ := nat_of hl
    rw [hp]
    exact ⟨_, aq_mono (w_read h1 ⟨h2, h3⟩ hd hk hb) fun S' ⟨q1, q2⟩ => ⟨⟨f0, f1, q1, h2, h3⟩, q2⟩⟩
  · exact ⟨_, aq_mono (w_read_bad h1 hp hb) fun S' ⟨q1, q2⟩ => ⟨⟨f0, f1, WI.mono q1 (Nat.le_refl _) (by omega), h2, h3⟩, q2⟩⟩
theorem e_copy (h : WF a A on m b S) (d l : Int) (hm : m ≤ 57) (hb : b ≤ 1099511600000) :
    Fnc Tryz.prog 18 [pt B.vn, .int .i64 d, .int .i64 l, .int .i64 0, .int .i64 1] (syM a A B S) (AQ a A B (fun S' => WF a A on (m + 7) (b + 20) S' ∧ S'.v = S.v) (.int .i64 (plE d l))) := by
  obtain ⟨f0, f1, h1, h2, h3⟩ := h
  by_cases hp : plE d l = 0
  · obtain ⟨hd, hl⟩ := plE_0 hp
    obtain ⟨k, hk, rfl⟩ := nat_of hl
    rw [hp]
    have hx := FB.fs h2 h3 d k hk
    have hu := FB.up h2 h3 0 1 hx
    exact aq_mono (w_copy (t := 1) h1 hd hk (.inl rfl) (by omega) (FB.size (FB.fs h2 h3 d) hk) hm hb) fun S' ⟨q1, q2⟩ => ⟨⟨_, _, q1, hu.1, hu.2⟩, q2⟩
  · exact aq_mono (w_copy_bad h1 hp hb) fun S' ⟨q1, q2⟩ => ⟨⟨f0, f1, WI.mono q1 (by omega) (by omega), h2, h3⟩, q2⟩
theorem e_clear (h : WF a A on m b S) (d l : Int) (hm : m ≤ 57) (hb : b ≤ 1099511610000) :
    Fnc Tryz.prog 19 [pt B.vn, .int .i64 d, .int .i64 l] (syM a A B S) (AQ a A B (fun S' => WF a A on (m + 7) (b + 13) S' ∧ S'.v = S.v) (.int .i64 (plE d l))) := by
  obtain ⟨f0, f1, h1, h2, h3⟩ := h
  by_cases hp : plE d l = 0
  · obtain ⟨hd, hl⟩ := plE_0 hp
    obtain ⟨k, hk, rfl⟩ := nat_of hl
    rw [hp]
    have hu := FB.up h2 h3 d k (.inl rfl)
    exact aq_mono (w_clear h1 hd hk hm hb) fun S' ⟨q1, q2⟩ => ⟨⟨_, _, q1, hu.1, hu.2⟩, q2⟩
  · exact aq_mono (w_clear_bad h1 hp hm hb) fun S' ⟨q1, q2⟩ => ⟨⟨f0, f1, WI.mono q1 (by omega) (by omega), h2, h3⟩, q2⟩
theorem e_set (h : WF a A on m b S) (d l : Int) {s : ByteArray} (hk : kdOk s) (hm : m ≤ 57) (hb : b ≤ 1099511610000) :
    Fnc Tryz.prog 20 [pt B.vn, .int .i64 d, .int .i64 l, .string s] (syM a A B S) (AQ a A B (fun S' => WF a A on (m + 7) (b + 13) S' ∧ S'.v = S.v) (.int .i64 (plE d l))) := by
  obtain ⟨f0, f1, h1, h2, h3⟩ := h
  by_cases hp : plE d l = 0
  · obtain ⟨hd, hl⟩ := plE_0 hp
    obtain ⟨k, hk', rfl⟩ := nat_of hl
    rw [hp]
    have hu := FB.up h2 h3 d k (.inr hk)
    exact aq_mono (w_set h1 hd hk' hk hm hb) fun S' ⟨q1, q2⟩ => ⟨⟨_, _, q1, hu.1, hu.2⟩, q2⟩
  · exact aq_mono (w_set_bad h1 hp hk hm hb) fun S' ⟨q1, q2⟩ => ⟨⟨f0, f1, WI.mono q1 (by omega) (by omega), h2, h3⟩, q2⟩
theorem e_plain (h : WF a A on m b S) (d l : Int) {s : ByteArray} (hs : s.size = 48) (hm : m ≤ 57) (hb : b ≤ 1099511610000) :
    Fnc Tryz.prog 23 [pt B.vn, .int .i64 d, .int .i64 l, .string s] (syM a A B S) (AQ a A B (fun S' => WF a A on (m + 7) (b + 13) S' ∧ S'.v = S.v) (.int .i64 (plE d l))) := by
  obtain ⟨f0, f1, h1, h2, h3⟩ := h
  by_cases hp : plE d l = 0
  · obtain ⟨hd, hl⟩ := plE_0 hp
    obtain ⟨k, hk', rfl⟩ := nat_of hl
    rw [hp]
    have hu := FB.up h2 h3 d k (.inr (layB_ok num0 (.inr rfl) hs).1)
    exact aq_mono (w_plain h1 hd hk' hs hm hb) fun S' ⟨q1, q2⟩ => ⟨⟨_, _, q1, hu.1, hu.2⟩, q2⟩
  · exact aq_mono (w_plain_bad h1 hp hs hm hb) fun S' ⟨q1, q2⟩ => ⟨⟨f0, f1, WI.mono q1 (by omega) (by omega), h2, h3⟩, q2⟩
theorem e_write (h : WF a A on m b S) (d l : Int) {s : ByteArray} (hs : s.size = 48) (hn : S.v.x.next < S.v.x.many) (hm : m ≤ 50) (hb : b ≤ 1099511610000) :
    Fnc Tryz.prog 22 [pt B.vn, .int .i64 d, .int .i64 l, .string s] (syM a A B S) (AQ a A B (fun S' => WF a A on (m + 8) (b + 13) S' ∧ S'.v = sealX S.v) (.int .i64 (plE d l))) := by
  obtain ⟨f0, f1, h1, h2, h3⟩ := h
  by_cases hp : plE d l = 0
  · obtain ⟨hd, hl⟩ := plE_0 hp
    obtain ⟨k, hk', rfl⟩ := nat_of hl
    rw [hp]
    have hu := FB.up h2 h3 d k (.inr (WI.kd h1 hn hs))
    exact aq_mono (w_write h1 hd hk' hs hn hm hb) fun S' ⟨q1, q2⟩ => ⟨⟨_, _, q1, hu.1, hu.2⟩, q2⟩
  · exact aq_mono (w_write_bad h1 hp hs hn hm hb) fun S' ⟨q1, q2⟩ => ⟨⟨f0, f1, WI.mono q1 (by omega) (by omega), h2, h3⟩, q2⟩
end
/-! The calls, in a row. -/
section
variable {a : RigA} {A : StoA} {B : VA} {on : Nat} {S : Sy} {m b : Nat}
def PW (a : RigA) (A : StoA) (on : Nat) (m b : Nat) (S : Sy) : Prop := WF a A on m b S ∧ S.v.x = ⟨0, 0, 100⟩
def PX (a : RigA) (A : StoA) (on : Nat) (m b : Nat) (S : Sy) : Prop := WF a A on m b S
theorem p_copy (d l : Int) (h : PW a A on 0 2107 S) : Fnc Tryz.prog 18 [pt B.vn, .int .i64 d, .int .i64 l, .int .i64 0, .int .i64 1] (syM a A B S) (AQ a A B (PW a A on 7 2127) (.int .i64 (plE d l))) :=
  aq_mono (e_copy h.1 d l (by omega) (by omega)) fun S' ⟨h1, h2⟩ => ⟨h1, by rw [h2]; exact h.2⟩
theorem p_clear (d l : Int) (h : PW a A on 7 2127 S) : Fnc Tryz.prog 19 [pt B.vn, .int .i64 d, .int .i64 l] (syM a A B S) (AQ a A B (PW a A on 14 2140) (.int .i64 (plE d l))) :=
  aq_mono (e_clear h.1 d l (by omega) (by omega)) fun S' ⟨h1, h2⟩ => ⟨h1, by rw [h2]; exact h.2⟩
theorem p_set (d l : Int) {s : ByteArray} (hk : kdOk s) (h : PW a A on 14 2140 S) : Fnc Tryz.prog 20 [pt B.vn, .int .i64 d, .int .i64 l, .string s] (syM a A B S) (AQ a A B (PW a A on 21 2153) (.int .i64 (plE d l))) :=
  aq_mono (e_set h.1 d l hk (by omega) (by omega)) fun S' ⟨h1, h2⟩ => ⟨h1, by rw [h2]; exact h.2⟩
theorem p_write (d l : Int) {s : ByteArray} (hs : s.size = 48) (h : PW a A on 21 2153 S) : Fnc Tryz.prog 22 [pt B.vn, .int .i64 d, .int .i64 l, .string s] (syM a A B S) (AQ a A B (PX a A on 29 2166) (.int .i64 (plE d l))) :=
  aq_mono (e_write h.1 d l hs (by rw [h.2]; decide) (by omega) (by omega)) fun S' ⟨h1, h2⟩ => h1
theorem p_plain (d l : Int) {s : ByteArray} (hs : s.size = 48) (h : PX a A on 29 2166 S) : Fnc Tryz.prog 23 [pt B.vn, .int .i64 d, .int .i64 l, .string s] (syM a A B S) (AQ a A B (PX a A on 36 2179) (.int .i64 (plE d l))) :=
  aq_mono (e_plain h d l hs (by omega) (by omega)) fun S' ⟨h1, h2⟩ => h1
theorem PW.up (h : PW a A on 14 2140 S) : PW a A on 21 2153 S := ⟨WF.mono h.1 (by omega) (by omega), h.2⟩
theorem p_read (d l : Int) (h : WI a A on S (fun _ => z64) (fun _ => z64) 0 2100) (hx : S.v.x = ⟨0, 0, 100⟩) : ∃ x, Fnc Tryz.prog 17 [pt B.vn, .int .i64 d, .int .i64 l] (syM a A B S) (AQ a A B (PW a A on 0 2107) (.tuple #[.string x, .int .i64 (plE d l)])) := by
  obtain ⟨x, hr⟩ := e_read (B := B) (⟨_, _, h, zf_FB, zf_FB⟩ : WF a A on 0 2100 S) d l (by omega)
  exact ⟨x, aq_mono hr fun S' ⟨h1, h2⟩ => ⟨h1, by rw [h2]; exact hx⟩⟩
end
attribute [local irreducible] wdC syM z64 sealB updB stC Sto.c rgM stoR plE kdN kdK kdB PW PX
set_option maxHeartbeats 4000000 in
theorem errors_big (k d l e t : Int) (z s : ByteArray) (hs5 : 500 < s.size) : Fnc Tryz.prog 3 [.agg #[.int .i64 k, .int .i64 d, .int .i64 l, .int .i64 e, .int .i64 t, .string z], .string s] [] (Ret (.bool true) []) := by
  have hb := begun_ 100 (by decide)
  have ha := awake_
  refine fn_intro Tryz.func3 (by kernel_rfl) ?_
  repeat' ((conv => whnf); first
      | (refine call_g hb .nil (fun e A' hq => ?_); obtain ⟨wn, a, A, B, S, f, g, w0, x0, n0, z0, e0, m0⟩ := hq; subst e0; subst m0)
      | refine call_val ha ?_
      | refine fin_nil ⟨?_, rfl⟩
      | refine ld1_lit ?_
      | refine ldN_lit ?_
      | refine nw (fun n => ?_)
      | refine bld ?_
      | refine st_lit rfl ?_
      | refine need (by first | rfl | omega) ?_
      | (refine wr (fun z hz => ?_); (try rw [Int.tdiv_eq_ediv_of_nonneg (by omega)] at hz); rw [w64 (by omega) (by omega)] at hz; subst hz)
      | (refine zv (fun z hz => ?_); (try rw [Int.tmod_eq_emod_of_nonneg (by omega)] at hz); subst hz)
      | (refine ifs (fun h => ?_) (fun h => ?_) <;> (try (exfalso; first | omega | with_reducible contradiction | with_reducible exact h rfl)))
      | refine fin_nil ⟨?_, rfl⟩)
  all_goals rfl
/-- Where a leaf is not, or which device there is not; or it is there. -/
def plW (d l p : Int) : Prop := (d ≠ 0 ∧ d ≠ 1 ∧ p = 2) ∨ (d = 0 ∧ l < 0 ∧ p = 3) ∨ (d = 0 ∧ 63 < l ∧ p = 3) ∨ (d = 1 ∧ l < 0 ∧ p = 3) ∨ (d = 1 ∧ 63 < l ∧ p = 3) ∨ (d = 0 ∧ 0 ≤ l ∧ l < 64 ∧ p = 0) ∨ (d = 1 ∧ 0 ≤ l ∧ l < 64 ∧ p = 0)
theorem pl_W (d l : Int) : plW d l (plE d l) := by
  have := pl_cases d l
  unfold plW
  omega
set_option maxHeartbeats 4000000 in
theorem errors_11 (k d l e t : Int) (z s : ByteArray) (hs5 : ¬ 500 < s.size) (hkd : kdOk s) (hz : z.size = 48) : Fnc Tryz.prog 3 [.agg #[.int .i64 k, .int .i64 d, .int .i64 l, .int .i64 e, .int .i64 t, .string z], .string s] [] (Ret (.bool true) []) := by
  have hb := begun_ 100 (by decide)
  have ha := awake_
  have hpl := pl_W d l
  have hk5 := kind5 s (by omega)
  rw [show kdB s = true by unfold kdB; rw [if_pos hkd]] at hk5
  have hst := fun (a : RigA) (A : StoA) (B : VA) (on : Nat) (S : Sy) h => p_set (a := a) (A := A) (B := B) (on := on) (S := S) d l hkd h
  have hwr := fun (a : RigA) (A : StoA) (B : VA) (on : Nat) (S : Sy) h => p_write (a := a) (A := A) (B := B) (on := on) (S := S) d l hz h
  have hpn := fun (a : RigA) (A : StoA) (B : VA) (on : Nat) (S : Sy) h => p_plain (a := a) (A := A) (B := B) (on := on) (S := S) d l hz h
  have hrd := fun (a : RigA) (A : StoA) (B : VA) (S : Sy) h hx => p_read (a := a) (A := A) (B := B) (on := S.o.on) (S := S) d l h hx
  have hco := fun (a : RigA) (A : StoA) (B : VA) (on : Nat) (S : Sy) h => p_copy (a := a) (A := A) (B := B) (on := on) (S := S) d l h
  have hcl := fun (a : RigA) (A : StoA) (B : VA) (on : Nat) (S : Sy) h => p_clear (a := a) (A := A) (B := B) (on := on) (S := S) d l h
  generalize plE d l = p at hpl hrd hco hcl hst hwr hpn
  unfold plW at hpl
  rcases hpl with hpl | hpl | hpl | hpl | hpl | hpl | hpl
  all_goals
    refine fn_intro Tryz.func3 (by kernel_rfl) ?_
    repeat' ((conv => whnf); first
        | (refine call_g hb .nil (fun e A' hq => ?_); obtain ⟨wn, a, A, B, S, f, g, w0, x0, n0, z0, e0, m0⟩ := hq; subst e0; subst m0)
        | refine call_val ha ?_
        | refine fin_nil ⟨?_, rfl⟩
        | refine ld1_lit ?_
        | refine ldN_lit ?_
        | refine nw (fun n => ?_)
        | refine bld ?_
        | refine st_lit rfl ?_
        | refine need (by first | rfl | omega) ?_
        | (refine wr (fun z hz => ?_); (try rw [Int.tdiv_eq_ediv_of_nonneg (by omega)] at hz); rw [w64 (by omega) (by omega)] at hz; subst hz)
        | (refine zv (fun z hz => ?_); (try rw [Int.tmod_eq_emod_of_nonneg (by omega)] at hz); subst hz)
        | (refine ifs (fun h => ?_) (fun h => ?_) <;> (try (exfalso; first | omega | with_reducible contradiction | with_reducible exact h rfl)))
        | refine fin_nil ⟨?_, rfl⟩)
    all_goals (conv => whnf)
    all_goals first | rfl | skip
    all_goals
      obtain ⟨xr, cr⟩ := hrd a A B S w0 x0
      repeat' ((conv => whnf); first
          | refine call_val hk5 ?_
          | refine draw_any 9 [(0, true), (1, true), (2, true), (4, true), (6, true), (3, true), (5, true), (7, false), (8, false), (9, true), (10, true), (11, true), (12, true), (13, true)] [⟨wn, _⟩, ⟨n, _⟩] rfl (by kernel_rfl) (kept_of (.cons takeC (.cons takeC .nil)) ?_)
          | refine draw_any 10 [(0, true), (1, true), (2, true), (4, true), (6, true), (3, true), (5, true), (7, false), (8, false), (9, true)] [⟨wn, _⟩, ⟨n, _⟩] rfl (by kernel_rfl) (kept_of (.cons takeC (.cons takeC .nil)) ?_)
          | refine draw_any 11 [(0, true), (1, true), (2, true), (4, true), (6, true), (3, true), (5, true), (7, false), (8, false), (9, true)] [⟨wn, _⟩, ⟨n, _⟩] rfl (by kernel_rfl) (kept_of (.cons takeC (.cons takeC .nil)) ?_)
          | refine draw_any 12 [(0, true), (1, true), (2, true), (4, true), (6, true), (8, true), (3, true), (5, true), (7, false), (9, false), (10, true)] [⟨wn, _⟩, ⟨n, _⟩] rfl (by kernel_rfl) (kept_of (.cons takeC (.cons takeC .nil)) ?_)
          | refine draw_any 18 [(0, true), (1, true), (2, true), (4, true), (6, true), (8, true), (11, true), (12, true), (13, true), (15, true), (17, true), (19, true), (3, true), (5, true), (7, true), (9, true), (14, true), (16, true), (18, true), (20, true), (10, false), (21, false), (22, true), (23, true)] [⟨wn, _⟩, ⟨n, _⟩] rfl (by kernel_rfl) (kept_of (.cons takeC (.cons takeC .nil)) ?_)
          | refine kept_of (.cons takeC (.cons takeC .nil)) ?_
          | refine fld1_row (n := wn) wdC_2 ?_
          | refine fld1 ?_
          | refine call_a cr (.one takeE) (fun S1 h1 => ?_)
          | refine call_a (hco a A B S.o.on S1 h1) (.one takeE) (fun S2 h2 => ?_)
          | refine call_a (hcl a A B S.o.on S2 h2) (.one takeE) (fun S3 h3 => ?_)
          | refine call_a (hst a A B S.o.on S3 h3) (.one takeE) (fun S4 h4 => ?_)
          | refine call_a (hwr a A B S.o.on S4 h4) (.one takeE) (fun S5 h5 => ?_)
          | refine call_a (hpn a A B S.o.on S5 h5) (.one takeE) (fun S6 h6 => ?_)
          | refine fin_nil ⟨?_, rfl⟩
          | refine ld1_lit ?_
          | refine ldN_lit ?_
          | refine nw (fun n => ?_)
          | refine bld ?_
          | refine st_lit rfl ?_
          | refine need (by first | rfl | omega) ?_
          | (refine wr (fun z hz => ?_); (try rw [Int.tdiv_eq_ediv_of_nonneg (by omega)] at hz); rw [w64 (by omega) (by omega)] at hz; subst hz)
          | (refine zv (fun z hz => ?_); (try rw [Int.tmod_eq_emod_of_nonneg (by omega)] at hz); subst hz)
          | (refine ifs (fun h => ?_) (fun h => ?_) <;> (try (exfalso; first | omega | with_reducible contradiction | with_reducible exact h rfl)))
          | refine fin_nil ⟨?_, rfl⟩)
      all_goals (conv => whnf)
      all_goals rfl
set_option maxHeartbeats 4000000 in
theorem errors_10 (k d l e t : Int) (z s : ByteArray) (hs5 : ¬ 500 < s.size) (hkd : kdOk s) (hz : ¬ z.size = 48) : Fnc Tryz.prog 3 [.agg #[.int .i64 k, .int .i64 d, .int .i64 l, .int .i64 e, .int .i64 t, .string z], .string s] [] (Ret (.bool true) []) := by
  have hb := begun_ 100 (by decide)
  have ha := awake_
  have hpl := pl_W d l
  have hk5 := kind5 s (by omega)
  rw [show kdB s = true by unfold kdB; rw [if_pos hkd]] at hk5
  have hst := fun (a : RigA) (A : StoA) (B : VA) (on : Nat) (S : Sy) h => p_set (a := a) (A := A) (B := B) (on := on) (S := S) d l hkd h
  have hrd := fun (a : RigA) (A : StoA) (B : VA) (S : Sy) h hx => p_read (a := a) (A := A) (B := B) (on := S.o.on) (S := S) d l h hx
  have hco := fun (a : RigA) (A : StoA) (B : VA) (on : Nat) (S : Sy) h => p_copy (a := a) (A := A) (B := B) (on := on) (S := S) d l h
  have hcl := fun (a : RigA) (A : StoA) (B : VA) (on : Nat) (S : Sy) h => p_clear (a := a) (A := A) (B := B) (on := on) (S := S) d l h
  generalize plE d l = p at hpl hrd hco hcl hst
  unfold plW at hpl
  rcases hpl with hpl | hpl | hpl | hpl | hpl | hpl | hpl
  all_goals
    refine fn_intro Tryz.func3 (by kernel_rfl) ?_
    repeat' ((conv => whnf); first
        | (refine call_g hb .nil (fun e A' hq => ?_); obtain ⟨wn, a, A, B, S, f, g, w0, x0, n0, z0, e0, m0⟩ := hq; subst e0; subst m0)
        | refine call_val ha ?_
        | refine fin_nil ⟨?_, rfl⟩
        | refine ld1_lit ?_
        | refine ldN_lit ?_
        | refine nw (fun n => ?_)
        | refine bld ?_
        | refine st_lit rfl ?_
        | refine need (by first | rfl | omega) ?_
        | (refine wr (fun z hz => ?_); (try rw [Int.tdiv_eq_ediv_of_nonneg (by omega)] at hz); rw [w64 (by omega) (by omega)] at hz; subst hz)
        | (refine zv (fun z hz => ?_); (try rw [Int.tmod_eq_emod_of_nonneg (by omega)] at hz); subst hz)
        | (refine ifs (fun h => ?_) (fun h => ?_) <;> (try (exfalso; first | omega | with_reducible contradiction | with_reducible exact h rfl)))
        | refine fin_nil ⟨?_, rfl⟩)
    all_goals (conv => whnf)
    all_goals first | rfl | skip
    all_goals
      obtain ⟨xr, cr⟩ := hrd a A B S w0 x0
      repeat' ((conv => whnf); first
          | refine call_val hk5 ?_
          | refine draw_any 9 [(0, true), (1, true), (2, true), (4, true), (6, true), (3, true), (5, true), (7, false), (8, false), (9, true), (10, true), (11, true), (12, true), (13, true)] [⟨wn, _⟩, ⟨n, _⟩] rfl (by kernel_rfl) (kept_of (.cons takeC (.cons takeC .nil)) ?_)
          | refine draw_any 10 [(0, true), (1, true), (2, true), (4, true), (6, true), (3, true), (5, true), (7, false), (8, false), (9, true)] [⟨wn, _⟩, ⟨n, _⟩] rfl (by kernel_rfl) (kept_of (.cons takeC (.cons takeC .nil)) ?_)
          | refine draw_any 11 [(0, true), (1, true), (2, true), (4, true), (6, true), (3, true), (5, true), (7, false), (8, false), (9, true)] [⟨wn, _⟩, ⟨n, _⟩] rfl (by kernel_rfl) (kept_of (.cons takeC (.cons takeC .nil)) ?_)
          | refine draw_any 12 [(0, true), (1, true), (2, true), (4, true), (6, true), (8, true), (3, true), (5, true), (7, false), (9, false), (10, true)] [⟨wn, _⟩, ⟨n, _⟩] rfl (by kernel_rfl) (kept_of (.cons takeC (.cons takeC .nil)) ?_)
          | refine draw_any 18 [(0, true), (1, true), (2, true), (4, true), (6, true), (8, true), (11, true), (12, true), (13, true), (15, true), (17, true), (19, true), (3, true), (5, true), (7, true), (9, true), (14, true), (16, true), (18, true), (20, true), (10, false), (21, false), (22, true), (23, true)] [⟨wn, _⟩, ⟨n, _⟩] rfl (by kernel_rfl) (kept_of (.cons takeC (.cons takeC .nil)) ?_)
          | refine kept_of (.cons takeC (.cons takeC .nil)) ?_
          | refine fld1_row (n := wn) wdC_2 ?_
          | refine fld1 ?_
          | refine call_a cr (.one takeE) (fun S1 h1 => ?_)
          | refine call_a (hco a A B S.o.on S1 h1) (.one takeE) (fun S2 h2 => ?_)
          | refine call_a (hcl a A B S.o.on S2 h2) (.one takeE) (fun S3 h3 => ?_)
          | refine call_a (hst a A B S.o.on S3 h3) (.one takeE) (fun S4 h4 => ?_)
          | refine call_val (write_form B.vn d l z hz) ?_
          | refine call_val (plain_form B.vn d l z hz) ?_
          | refine fin_nil ⟨?_, rfl⟩
          | refine ld1_lit ?_
          | refine ldN_lit ?_
          | refine nw (fun n => ?_)
          | refine bld ?_
          | refine st_lit rfl ?_
          | refine need (by first | rfl | omega) ?_
          | (refine wr (fun z hz => ?_); (try rw [Int.tdiv_eq_ediv_of_nonneg (by omega)] at hz); rw [w64 (by omega) (by omega)] at hz; subst hz)
          | (refine zv (fun z hz => ?_); (try rw [Int.tmod_eq_emod_of_nonneg (by omega)] at hz); subst hz)
          | (refine ifs (fun h => ?_) (fun h => ?_) <;> (try (exfalso; first | omega | with_reducible contradiction | with_reducible exact h rfl)))
          | refine fin_nil ⟨?_, rfl⟩)
      all_goals (conv => whnf)
      all_goals rfl
set_option maxHeartbeats 4000000 in
theorem errors_01 (k d l e t : Int) (z s : ByteArray) (hs5 : ¬ 500 < s.size) (hkd : ¬ kdOk s) (hz : z.size = 48) : Fnc Tryz.prog 3 [.agg #[.int .i64 k, .int .i64 d, .int .i64 l, .int .i64 e, .int .i64 t, .string z], .string s] [] (Ret (.bool true) []) := by
  have hb := begun_ 100 (by decide)
  have ha := awake_
  have hpl := pl_W d l
  have hk5 := kind5 s (by omega)
  rw [show kdB s = false by unfold kdB; rw [if_neg hkd]] at hk5
  have hwr := fun (a : RigA) (A : StoA) (B : VA) (on : Nat) (S : Sy) h => p_write (a := a) (A := A) (B := B) (on := on) (S := S) d l hz h
  have hpn := fun (a : RigA) (A : StoA) (B : VA) (on : Nat) (S : Sy) h => p_plain (a := a) (A := A) (B := B) (on := on) (S := S) d l hz h
  have hrd := fun (a : RigA) (A : StoA) (B : VA) (S : Sy) h hx => p_read (a := a) (A := A) (B := B) (on := S.o.on) (S := S) d l h hx
  have hco := fun (a : RigA) (A : StoA) (B : VA) (on : Nat) (S : Sy) h => p_copy (a := a) (A := A) (B := B) (on := on) (S := S) d l h
  have hcl := fun (a : RigA) (A : StoA) (B : VA) (on : Nat) (S : Sy) h => p_clear (a := a) (A := A) (B := B) (on := on) (S := S) d l h
  generalize plE d l = p at hpl hrd hco hcl hwr hpn
  unfold plW at hpl
  rcases hpl with hpl | hpl | hpl | hpl | hpl | hpl | hpl
  all_goals
    refine fn_intro Tryz.func3 (by kernel_rfl) ?_
    repeat' ((conv => whnf); first
        | (refine call_g hb .nil (fun e A' hq => ?_); obtain ⟨wn, a, A, B, S, f, g, w0, x0, n0, z0, e0, m0⟩ := hq; subst e0; subst m0)
        | refine call_val ha ?_
        | refine fin_nil ⟨?_, rfl⟩
        | refine ld1_lit ?_
        | refine ldN_lit ?_
        | refine nw (fun n => ?_)
        | refine bld ?_
        | refine st_lit rfl ?_
        | refine need (by first | rfl | omega) ?_
        | (refine wr (fun z hz => ?_); (try rw [Int.tdiv_eq_ediv_of_nonneg (by omega)] at hz); rw [w64 (by omega) (by omega)] at hz; subst hz)
        | (refine zv (fun z hz => ?_); (try rw [Int.tmod_eq_emod_of_nonneg (by omega)] at hz); subst hz)
        | (refine ifs (fun h => ?_) (fun h => ?_) <;> (try (exfalso; first | omega | with_reducible contradiction | with_reducible exact h rfl)))
        | refine fin_nil ⟨?_, rfl⟩)
    all_goals (conv => whnf)
    all_goals first | rfl | skip
    all_goals
      obtain ⟨xr, cr⟩ := hrd a A B S w0 x0
      repeat' ((conv => whnf); first
          | refine call_val hk5 ?_
          | refine draw_any 9 [(0, true), (1, true), (2, true), (4, true), (6, true), (3, true), (5, true), (7, false), (8, false), (9, true), (10, true), (11, true), (12, true), (13, true)] [⟨wn, _⟩, ⟨n, _⟩] rfl (by kernel_rfl) (kept_of (.cons takeC (.cons takeC .nil)) ?_)
          | refine draw_any 10 [(0, true), (1, true), (2, true), (4, true), (6, true), (3, true), (5, true), (7, false), (8, false), (9, true)] [⟨wn, _⟩, ⟨n, _⟩] rfl (by kernel_rfl) (kept_of (.cons takeC (.cons takeC .nil)) ?_)
          | refine draw_any 11 [(0, true), (1, true), (2, true), (4, true), (6, true), (3, true), (5, true), (7, false), (8, false), (9, true)] [⟨wn, _⟩, ⟨n, _⟩] rfl (by kernel_rfl) (kept_of (.cons takeC (.cons takeC .nil)) ?_)
          | refine draw_any 12 [(0, true), (1, true), (2, true), (4, true), (6, true), (8, true), (3, true), (5, true), (7, false), (9, false), (10, true)] [⟨wn, _⟩, ⟨n, _⟩] rfl (by kernel_rfl) (kept_of (.cons takeC (.cons takeC .nil)) ?_)
          | refine draw_any 18 [(0, true), (1, true), (2, true), (4, true), (6, true), (8, true), (11, true), (12, true), (13, true), (15, true), (17, true), (19, true), (3, true), (5, true), (7, true), (9, true), (14, true), (16, true), (18, true), (20, true), (10, false), (21, false), (22, true), (23, true)] [⟨wn, _⟩, ⟨n, _⟩] rfl (by kernel_rfl) (kept_of (.cons takeC (.cons takeC .nil)) ?_)
          | refine kept_of (.cons takeC (.cons takeC .nil)) ?_
          | refine fld1_row (n := wn) wdC_2 ?_
          | refine fld1 ?_
          | refine call_a cr (.one takeE) (fun S1 h1 => ?_)
          | refine call_a (hco a A B S.o.on S1 h1) (.one takeE) (fun S2 h2 => ?_)
          | refine call_a (hcl a A B S.o.on S2 h2) (.one takeE) (fun S3 h3 => ?_)
          | refine call_val (setv_no B.vn d l s (by omega) hkd) ?_
          | refine call_a (hwr a A B S.o.on S3 (PW.up h3)) (.one takeE) (fun S5 h5 => ?_)
          | refine call_a (hpn a A B S.o.on S5 h5) (.one takeE) (fun S6 h6 => ?_)
          | refine fin_nil ⟨?_, rfl⟩
          | refine ld1_lit ?_
          | refine ldN_lit ?_
          | refine nw (fun n => ?_)
          | refine bld ?_
          | refine st_lit rfl ?_
          | refine need (by first | rfl | omega) ?_
          | (refine wr (fun z hz => ?_); (try rw [Int.tdiv_eq_ediv_of_nonneg (by omega)] at hz); rw [w64 (by omega) (by omega)] at hz; subst hz)
          | (refine zv (fun z hz => ?_); (try rw [Int.tmod_eq_emod_of_nonneg (by omega)] at hz); subst hz)
          | (refine ifs (fun h => ?_) (fun h => ?_) <;> (try (exfalso; first | omega | with_reducible contradiction | with_reducible exact h rfl)))
          | refine fin_nil ⟨?_, rfl⟩)
      all_goals (conv => whnf)
      all_goals rfl
set_option maxHeartbeats 4000000 in
theorem errors_00 (k d l e t : Int) (z s : ByteArray) (hs5 : ¬ 500 < s.size) (hkd : ¬ kdOk s) (hz : ¬ z.size = 48) : Fnc Tryz.prog 3 [.agg #[.int .i64 k, .int .i64 d, .int .i64 l, .int .i64 e, .int .i64 t, .string z], .string s] [] (Ret (.bool true) []) := by
  have hb := begun_ 100 (by decide)
  have ha := awake_
  have hpl := pl_W d l
  have hk5 := kind5 s (by omega)
  rw [show kdB s = false by unfold kdB; rw [if_neg hkd]] at hk5
  have hrd := fun (a : RigA) (A : StoA) (B : VA) (S : Sy) h hx => p_read (a := a) (A := A) (B := B) (on := S.o.on) (S := S) d l h hx
  have hco := fun (a : RigA) (A : StoA) (B : VA) (on : Nat) (S : Sy) h => p_copy (a := a) (A := A) (B := B) (on := on) (S := S) d l h
  have hcl := fun (a : RigA) (A : StoA) (B : VA) (on : Nat) (S : Sy) h => p_clear (a := a) (A := A) (B := B) (on := on) (S := S) d l h
  generalize plE d l = p at hpl hrd hco hcl 
  unfold plW at hpl
  rcases hpl with hpl | hpl | hpl | hpl | hpl | hpl | hpl
  all_goals
    refine fn_intro Tryz.func3 (by kernel_rfl) ?_
    repeat' ((conv => whnf); first
        | (refine call_g hb .nil (fun e A' hq => ?_); obtain ⟨wn, a, A, B, S, f, g, w0, x0, n0, z0, e0, m0⟩ := hq; subst e0; subst m0)
        | refine call_val ha ?_
        | refine fin_nil ⟨?_, rfl⟩
        | refine ld1_lit ?_
        | refine ldN_lit ?_
        | refine nw (fun n => ?_)
        | refine bld ?_
        | refine st_lit rfl ?_
        | refine need (by first | rfl | omega) ?_
        | (refine wr (fun z hz => ?_); (try rw [Int.tdiv_eq_ediv_of_nonneg (by omega)] at hz); rw [w64 (by omega) (by omega)] at hz; subst hz)
        | (refine zv (fun z hz => ?_); (try rw [Int.tmod_eq_emod_of_nonneg (by omega)] at hz); subst hz)
        | (refine ifs (fun h => ?_) (fun h => ?_) <;> (try (exfalso; first | omega | with_reducible contradiction | with_reducible exact h rfl)))
        | refine fin_nil ⟨?_, rfl⟩)
    all_goals (conv => whnf)
    all_goals first | rfl | skip
    all_goals
      obtain ⟨xr, cr⟩ := hrd a A B S w0 x0
      repeat' ((conv => whnf); first
          | refine call_val hk5 ?_
          | refine draw_any 9 [(0, true), (1, true), (2, true), (4, true), (6, true), (3, true), (5, true), (7, false), (8, false), (9, true), (10, true), (11, true), (12, true), (13, true)] [⟨wn, _⟩, ⟨n, _⟩] rfl (by kernel_rfl) (kept_of (.cons takeC (.cons takeC .nil)) ?_)
          | refine draw_any 10 [(0, true), (1, true), (2, true), (4, true), (6, true), (3, true), (5, true), (7, false), (8, false), (9, true)] [⟨wn, _⟩, ⟨n, _⟩] rfl (by kernel_rfl) (kept_of (.cons takeC (.cons takeC .nil)) ?_)
          | refine draw_any 11 [(0, true), (1, true), (2, true), (4, true), (6, true), (3, true), (5, true), (7, false), (8, false), (9, true)] [⟨wn, _⟩, ⟨n, _⟩] rfl (by kernel_rfl) (kept_of (.cons takeC (.cons takeC .nil)) ?_)
          | refine draw_any 12 [(0, true), (1, true), (2, true), (4, true), (6, true), (8, true), (3, true), (5, true), (7, false), (9, false), (10, true)] [⟨wn, _⟩, ⟨n, _⟩] rfl (by kernel_rfl) (kept_of (.cons takeC (.cons takeC .nil)) ?_)
          | refine draw_any 18 [(0, true), (1, true), (2, true), (4, true), (6, true), (8, true), (11, true), (12, true), (13, true), (15, true), (17, true), (19, true), (3, true), (5, true), (7, true), (9, true), (14, true), (16, true), (18, true), (20, true), (10, false), (21, false), (22, true), (23, true)] [⟨wn, _⟩, ⟨n, _⟩] rfl (by kernel_rfl) (kept_of (.cons takeC (.cons takeC .nil)) ?_)
          | refine kept_of (.cons takeC (.cons takeC .nil)) ?_
          | refine fld1_row (n := wn) wdC_2 ?_
          | refine fld1 ?_
          | refine call_a cr (.one takeE) (fun S1 h1 => ?_)
          | refine call_a (hco a A B S.o.on S1 h1) (.one takeE) (fun S2 h2 => ?_)
          | refine call_a (hcl a A B S.o.on S2 h2) (.one takeE) (fun S3 h3 => ?_)
          | refine call_val (setv_no B.vn d l s (by omega) hkd) ?_
          | refine call_val (write_form B.vn d l z hz) ?_
          | refine call_val (plain_form B.vn d l z hz) ?_
          | refine fin_nil ⟨?_, rfl⟩
          | refine ld1_lit ?_
          | refine ldN_lit ?_
          | refine nw (fun n => ?_)
          | refine bld ?_
          | refine st_lit rfl ?_
          | refine need (by first | rfl | omega) ?_
          | (refine wr (fun z hz => ?_); (try rw [Int.tdiv_eq_ediv_of_nonneg (by omega)] at hz); rw [w64 (by omega) (by omega)] at hz; subst hz)
          | (refine zv (fun z hz => ?_); (try rw [Int.tmod_eq_emod_of_nonneg (by omega)] at hz); subst hz)
          | (refine ifs (fun h => ?_) (fun h => ?_) <;> (try (exfalso; first | omega | with_reducible contradiction | with_reducible exact h rfl)))
          | refine fin_nil ⟨?_, rfl⟩)
      all_goals (conv => whnf)
      all_goals rfl
theorem errors_ (k d l e t : Int) (z s : ByteArray) : Fnc Tryz.prog 3 [.agg #[.int .i64 k, .int .i64 d, .int .i64 l, .int .i64 e, .int .i64 t, .string z], .string s] [] (Ret (.bool true) []) := by
  by_cases hs5 : 500 < s.size
  · exact errors_big k d l e t z s hs5
  · by_cases hkd : kdOk s
    · by_cases hz : z.size = 48
      · exact errors_11 k d l e t z s hs5 hkd hz
      · exact errors_10 k d l e t z s hs5 hkd hz
    · by_cases hz : z.size = 48
      · exact errors_01 k d l e t z s hs5 hkd hz
      · exact errors_00 k d l e t z s hs5 hkd hz
end Go.Proofs.YtohefdmfnllehaaGreat.Bgn
