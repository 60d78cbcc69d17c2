/- Texts of this proof, merged. -/
import Derived.Test.YtkjamonkohpcnaaGreatAk7
import Derived.Test.YtkjamonkohpcnaaGreatAk6
import Derived.Test.YtkjamonkohpcnaaGreatAk5
set_option linter.unusedVariables false
set_option linter.unusedSimpArgs false
set_option linter.unusedSectionVars false
set_option maxRecDepth 100000
set_option maxHeartbeats 16000000
namespace Go.Proofs.YtkjamonkohpcnaaGreat
namespace Aes
open Go Ev Sha
section
variable {P : Program} {M : List Blk} {n : Nat} {t : TypeId}
theorem st_whole {cs vs : List Value} {f : Blk → List Blk} {K : List Blk → Prop} [z : Zip M n (.row cs t) f] (h1 : ∀ u ∈ vs, u.oneCell' = true) (hl : cs.length = vs.length) (hk : K (f ⟨n, .row vs t⟩)) : StN P M n 0 vs K :=
 st_rowN h1 (by omega) (by
  have : cs.take 0 ++ vs ++ cs.drop (0 + vs.length) = vs := by simp [hl]
  rw [this]; exact hk)
theorem ldN_whole {cs : List Value} {m : Nat} {K : List Value → Prop} [h : Look M n (.row cs t)] (hm : cs.length = m) (hk : K cs) : LdN M n 0 m K := ldN_row cs (by simp) hm hk
theorem row16_one (t : Nat → Int) : ∀ u ∈ row16 t, u.oneCell' = true := by
 intro u hu; unfold row16 at hu; obtain ⟨j, _, rfl⟩ := List.mem_map.1 hu; rfl
theorem row16_z : row16 (fun _ => 0) = List.replicate 16 (Value.int .u8 0) := by unfold row16; rfl
theorem st_16 {s : Nat → Int} {off : Nat} {v : Int} {T : TypeId} {f : Blk → List Blk} {k : List Blk → Prop} [z : Zip M n (.row (row16 s) T) f] (hi : off < 16) (hk : k (f ⟨n, .row (row16 (updF s off v)) T⟩)) : StN P M n off [.int .u8 v] k :=
 st_row rfl (by rw [row16_len]; exact hi) (by rw [row16_set hi]; exact hk)
theorem st_16w {s x : Nat → Int} {T : TypeId} {f : Blk → List Blk} {k : List Blk → Prop} [z : Zip M n (.row (row16 s) T) f] (hk : k (f ⟨n, .row (row16 x) T⟩)) : StN P M n 0 (row16 x) k :=
 st_whole (row16_one x) (by rw [row16_len, row16_len]) hk
end
theorem st_16l {P : Program} {M : List Blk} {n : Nat} {l : List Value} {s x : Nat → Int} {T : TypeId} {f : Blk → List Blk} {k : List Blk → Prop} [z : Zip M n (.row (row16 s) T) f] (hl : l = row16 x) (hk : k (f ⟨n, .row (row16 x) T⟩)) : StN P M n 0 l k := by
 subst hl; exact st_16w hk
abbrev sB (n : Nat) (s : Nat → Int) : Blk := ⟨n, .row (row16 s) 319⟩
theorem adds_succ (k : Nat → Int) (n : Nat) (s : Nat → Int) (i : Nat) : adds k n s (i + 1) = updF (adds k n s i) i (bx8 (adds k n s i i) (k (16 * n + i))) := rfl
theorem imgs_succ (k s : Nat → Int) (i : Nat) : imgs k s (i + 1) = updF (imgs k s i) i (k (240 + (s ((i + 4 * (i % 4)) % 16)).toNat)) := rfl
theorem mixs_succ (s : Nat → Int) (j : Nat) : mixs s (j + 1) = updF (mixs s j) (j / 4 * 4 + j % 4) (bx8 (bx8 (s (j / 4 * 4 + j % 4)) (mixAll s (j / 4 * 4))) (twice (bx8 (s (j / 4 * 4 + j % 4)) (s (j / 4 * 4 + (j % 4 + 1) % 4))))) := rfl
theorem mixs_at (s : Nat → Int) (c r : Nat) (hr : r < 4) : mixs s (4 * c + r + 1) = updF (mixs s (4 * c + r)) (4 * c + r) (bx8 (bx8 (s (4 * c + r)) (bx8 (bx8 (bx8 (s (4 * c)) (s (4 * c + 1))) (s (4 * c + 2))) (s (4 * c + 3)))) (twice (bx8 (s (4 * c + r)) (s (4 * c + (r + 1) % 4))))) := by
 rw [mixs_succ, show (4 * c + r) / 4 * 4 = 4 * c by omega, show (4 * c + r) % 4 = r by omega]; rfl
theorem adds_0 (k : Nat → Int) (n : Nat) (s : Nat → Int) : adds k n s 0 = s := rfl
theorem imgs_0 (k s : Nat → Int) : imgs k s 0 = fun _ => 0 := rfl
theorem mixs_0 (s : Nat → Int) : mixs s 0 = fun _ => 0 := rfl
attribute [local irreducible] rowK row16 adds imgs mixs twice
theorem add_16 (kn : Nat) (k s : Nat → Int) (q : Nat) (hq : q ≤ 14) : Fnc Tryz.prog 259 [pt kn, .agg (row16 s).toArray, .int .i64 q] [kB kn k] (Ret (.agg (row16 (add16 k q s)).toArray) [kB kn k]) := by
 refine fn_intro Tryz.func259 (by kernel_rfl) ?_
 repeat' ((conv => whnf); first
  | refine force_of ?_ | refine nw_row row16_z (fun n => ?_) | refine nw_row (cs' := row16 s) rfl (fun n => ?_))
 revert n; intro rn
 revert n; intro sn
 refine loop_rule [8] (fun vs M m => ∃ i : Nat, vs = [.int .i64 i] ∧ i ≤ 16 ∧ m = 16 - i ∧ M = [sB rn (fun _ => 0), sB sn (adds k q s i), kB kn k]) rfl ?_ ?_
 · exact fin_all ⟨_, 0, rfl, by omega, rfl, by rw [adds_0]⟩
 rintro vs junk M' m ⟨i, rfl, hi, rfl, rfl⟩
 obtain ⟨T, eT⟩ : ∃ T, T = adds k q s i := ⟨_, rfl⟩
 rw [← eT]
 repeat' ((conv => whnf); first
  | refine draw_tail 18 rfl (by kernel_rfl) ?_ | refine nv_eq (a := i) (by omega) ?_ | refine nv_eq (a := 16 * q + 4 * (i / 4)) (by omega) ?_ | refine nv_eq (a := 16 * q + i) (by omega) ?_ | refine Ev.qld1_row (n := sn) (row16_at (by omega)) ?_ | refine Ev.qld1_row (n := kn) (rowK_at (by omega)) ?_ | (refine wr8 (fun z hz => ?_); subst hz) | refine st_16 (n := sn) (by omega) ?_ | refine ldN_whole (n := sn) (row16_len _) ?_ | refine ldN_whole (n := rn) (row16_len _) ?_ | refine st_16w (n := rn) ?_ | refine force_of ?_ | refine need (row16_len _) ?_ | refine need (by first | rfl | omega) ?_ | (refine wr (fun z hz => ?_); (try rw [Int.tdiv_eq_ediv_of_nonneg (by omega)] at hz); rw [w64 (by omega) (by omega)] at hz; subst hz) | (refine zv (fun z hz => ?_); (try rw [Int.tmod_eq_emod_of_nonneg (by omega)] at hz); subst hz) | (refine ifs (fun h => ?_) (fun h => ?_) <;> try (exfalso; first | omega | with_reducible first | contradiction | exact h rfl)))
 all_goals (conv => whnf)
 · exact ⟨rfl, fin_all ⟨16 - (i + 1), by omega, i + 1, rfl, by omega, rfl, by rw [adds_succ, ← eT]; rfl⟩⟩
 · obtain rfl : i = 16 := by omega
   subst eT
   exact fin_pick (A' := [⟨kn, _⟩]) (.cons takeC .nil) ⟨rfl, rfl⟩
theorem images_ (kn : Nat) (k s : Nat → Int) (hs : ∀ j, by8 (s j)) : Fnc Tryz.prog 261 [pt kn, .agg (row16 s).toArray] [kB kn k] (Ret (.agg (row16 (imgs k s 16)).toArray) [kB kn k]) := by
 refine fn_intro Tryz.func261 (by kernel_rfl) ?_
 repeat' ((conv => whnf); first
  | refine force_of ?_ | refine nw_row row16_z (fun n => ?_) | refine nw_row (cs' := row16 s) rfl (fun n => ?_))
 revert n; intro on
 revert n; intro rn
 revert n; intro sn
 refine loop_rule [7] (fun vs M m => ∃ i : Nat, vs = [.int .i64 i] ∧ i ≤ 16 ∧ m = 16 - i ∧ M = [sB on (imgs k s i), sB rn (fun _ => 0), sB sn s, kB kn k]) rfl ?_ ?_
 · exact fin_all ⟨_, 0, rfl, by omega, rfl, by rw [imgs_0]⟩
 rintro vs junk M' m ⟨i, rfl, hi, rfl, rfl⟩
 obtain ⟨T, eT⟩ : ∃ T, T = imgs k s i := ⟨_, rfl⟩
 obtain ⟨j, ej⟩ : ∃ j, j = (i + 4 * (i % 4)) % 16 := ⟨_, rfl⟩
 have hj : j < 16 := by omega
 have hsj := hs j
 have lk : 240 + (s j).toNat < 752 := by unfold by8 at hsj; omega
 rw [← eT]
 repeat' ((conv => whnf); first
  | refine draw_tail 15 rfl (by kernel_rfl) ?_ | refine nv_eq (a := i) (by omega) ?_ | refine nv_eq (a := j) (by omega) ?_ | refine need (by8_lt hsj) ?_ | refine nv_eq (im_nv hsj) ?_ | refine Ev.qld1_row (n := sn) (row16_at hj) ?_ | refine Ev.qld1_row (n := kn) (rowK_at lk) ?_ | refine st_16 (n := on) (by omega) ?_ | refine ldN_whole (n := on) (row16_len _) ?_ | refine ldN_whole (n := rn) (row16_len _) ?_ | refine st_16w (n := rn) ?_ | refine force_of ?_ | refine need (row16_len _) ?_ | refine need (by first | rfl | omega) ?_ | (refine wr (fun z hz => ?_); (try rw [Int.tdiv_eq_ediv_of_nonneg (by omega)] at hz); rw [w64 (by omega) (by omega)] at hz; subst hz) | (refine zv (fun z hz => ?_); (try rw [Int.tmod_eq_emod_of_nonneg (by omega)] at hz); subst hz) | (refine ifs (fun h => ?_) (fun h => ?_) <;> try (exfalso; first | omega | with_reducible first | contradiction | exact h rfl)))
 all_goals (conv => whnf)
 · exact ⟨rfl, fin_all ⟨16 - (i + 1), by omega, i + 1, rfl, by omega, rfl, by rw [imgs_succ, ← eT, ← ej]⟩⟩
 · obtain rfl : i = 16 := by omega
   subst eT
   exact fin_pick (A' := [⟨kn, _⟩]) (.cons takeC .nil) ⟨rfl, rfl⟩
theorem mix_ (s : Nat → Int) : Fnc Tryz.prog 260 [.agg (row16 s).toArray] [] (Ret (.agg (row16 (mixs s 16)).toArray) []) := by
 refine fn_intro Tryz.func260 (by kernel_rfl) ?_
 repeat' ((conv => whnf); first
  | refine force_of ?_ | refine nw_row row16_z (fun n => ?_) | refine nw_row (cs' := row16 s) rfl (fun n => ?_))
 revert n; intro on
 revert n; intro rn
 revert n; intro sn
 refine loop_rule [4] (fun vs M m => ∃ c : Nat, vs = [.int .i64 ((4 * c : Nat) : Int)] ∧ c ≤ 4 ∧ m = 4 - c ∧ M = [sB on (mixs s (4 * c)), sB rn (fun _ => 0), sB sn s]) rfl ?_ ?_
 · exact fin_all ⟨_, 0, rfl, by omega, rfl, by rw [mixs_0]⟩
 rintro vs junk M' m ⟨c, rfl, hc, rfl, rfl⟩
 repeat' ((conv => whnf); first
  | refine draw_quiet rfl (by kernel_rfl) ?_ | refine nv_eq (a := 4 * c) (by omega) ?_ | refine nv_eq (a := 4 * c + 1) (by omega) ?_ | refine nv_eq (a := 4 * c + 2) (by omega) ?_ | refine nv_eq (a := 4 * c + 3) (by omega) ?_ | refine Ev.qld1_row (n := sn) (row16_at (by omega)) ?_ | (refine wr8 (fun z hz => ?_); subst hz) | refine ldN_whole (n := on) (row16_len _) ?_ | refine ldN_whole (n := rn) (row16_len _) ?_ | refine st_16w (n := rn) ?_ | refine force_of ?_ | refine need (row16_len _) ?_ | refine need (by first | rfl | omega) ?_ | (refine wr (fun z hz => ?_); (try rw [Int.tdiv_eq_ediv_of_nonneg (by omega)] at hz); rw [w64 (by omega) (by omega)] at hz; subst hz) | (refine ifs (fun h => ?_) (fun h => ?_) <;> try (exfalso; first | omega | with_reducible first | contradiction | exact h rfl)))
 all_goals (conv => whnf)
 · refine loop_rule [31] (fun vs M m => ∃ r : Nat, vs = [.int .i64 r] ∧ r ≤ 4 ∧ m = 4 - r ∧ M = [sB on (mixs s (4 * c + r)), sB rn (fun _ => 0), sB sn s]) rfl ?_ ?_
   · exact fin_all ⟨_, 0, rfl, by omega, rfl, rfl⟩
   rintro vs junk M' m ⟨r, rfl, hr, rfl, rfl⟩
   obtain ⟨T, eT⟩ : ∃ T, T = mixs s (4 * c + r) := ⟨_, rfl⟩
   obtain ⟨y, ey⟩ : ∃ y, y = 4 * c + (r + 1) % 4 := ⟨_, rfl⟩
   have hy : y < 16 := by omega
   rw [← eT]
   repeat' ((conv => whnf); first
    | refine draw_quiet rfl (by kernel_rfl) ?_ | refine call_val (twice_ _) ?_ | refine nv_eq (a := 4 * c + r) (by omega) ?_ | refine nv_eq (a := y) (by omega) ?_ | refine Ev.qld1_row (n := sn) (row16_at (by omega)) ?_ | (refine wr8 (fun z hz => ?_); subst hz) | refine st_16 (n := on) (by omega) ?_ | refine need (by first | rfl | omega) ?_ | (refine wr (fun z hz => ?_); (try rw [Int.tdiv_eq_ediv_of_nonneg (by omega)] at hz); rw [w64 (by omega) (by omega)] at hz; subst hz) | (refine zv (fun z hz => ?_); (try rw [Int.tmod_eq_emod_of_nonneg (by omega)] at hz); subst hz) | (refine ifs (fun h => ?_) (fun h => ?_) <;> try (exfalso; first | omega | with_reducible first | contradiction | exact h rfl)))
   all_goals (conv => whnf)
   · exact ⟨rfl, fin_all ⟨4 - (r + 1), by omega, r + 1, rfl, by omega, rfl, by rw [← Nat.add_assoc, mixs_at s c r (by omega), ← eT, ← ey]; rfl⟩⟩
   · obtain rfl : r = 4 := by omega
     rw [eT]
     exact ⟨rfl, fin_all ⟨4 - (c + 1), by omega, c + 1, by congr 2, by omega, rfl, rfl⟩⟩
 · obtain rfl : c = 4 := by omega
   exact fin_nil ⟨rfl, rfl⟩
theorem begin_ (kn : Nat) (k : Nat → Int) (s : ByteArray) (hs : s.size = 16) : Fnc Tryz.prog 258 [pt kn, .string s] [kB kn k] (Ret (.tuple #[.agg (row16 (bytesT s)).toArray, .int .i64 0]) [kB kn k]) := by
 have hr : (s.data.toList.map fun x => Value.int .u8 (x.toNat : Int)) = row16 (bytesT s) := by
  apply List.ext_getElem?
  intro j
  rw [List.getElem?_map]
  have hl : s.data.toList.length = 16 := hs
  by_cases hj : j < 16
  · rw [row16_at hj, List.getElem?_eq_getElem (by omega)]
    unfold bytesT byteAt
    rw [if_pos hj, List.getElem?_eq_getElem (by omega)]; rfl
  · rw [List.getElem?_eq_none (by omega), List.getElem?_eq_none (by rw [row16_len]; omega)]; rfl
 refine fn_intro Tryz.func258 (by kernel_rfl) ?_
 repeat' ((conv => whnf); first
  | refine nw_row row16_z (fun n => ?_) | refine need (by first | rfl | omega) ?_ | (refine ifs (fun h => ?_) (fun h => ?_) <;> try (exfalso; first | omega | with_reducible first | contradiction | exact h rfl)))
 revert n; intro xn
 revert n; intro rn
 repeat' ((conv => whnf); first
  | refine nv_eq (a := 0) rfl ?_ | refine nv_eq (a := 16) rfl ?_ | refine copy_str (n := 16) rfl rfl rfl hs (by first | exact Nat.le_refl _ | omega) ?_ | refine st_16l (n := xn) hr ?_ | refine ldN_whole (n := xn) (row16_len _) ?_ | refine ldN_whole (n := rn) (row16_len _) ?_ | refine st_16w (n := rn) ?_ | refine force_of ?_ | refine need (row16_len _) ?_)
 all_goals (conv => whnf)
 all_goals exact fin_pick (A' := [⟨kn, _⟩]) (.cons takeC .nil) ⟨rfl, rfl⟩
end Aes
namespace Rig
open Go Ev Sha Aes
def z64 : ByteArray := str (List.replicate 64 0)
def z96 : ByteArray := str (List.replicate 96 0)
def d0 : DevC := fun _ => ⟨z64, z64, false⟩
attribute [local irreducible] convert Builtin.copy_ Builtin.append_ Instr.makeSlice rowD z64 z96
theorem dnew : Fnc Tryz.prog 88 [.int .i64 288] [] (fun e A => ∃ a, e = .returned (.tuple #[pt a.dn, .int .i64 0]) ∧ A = devM a d0) := by
 have hz : str (List.replicate 64 0) = z64 := by unfold z64; rfl
 refine fn_intro Tryz.func88 (by kernel_rfl) ?_
 repeat' ((conv => whnf); first
  | refine mk_row rfl rfl rfl rfl rfl (by decide) (by decide) (by decide) (fun n => ?_) | refine b2s_row (t := 5) (l := List.replicate 64 0) (junk := []) (by simp [u8s]) rfl rfl rfl (by simp) ?_ | refine nw (fun n => ?_) | refine bld ?_ | (refine ifs (fun h => ?_) (fun h => ?_) <;> try (exfalso; first | omega | with_reducible first | contradiction | exact h rfl)))
 all_goals (conv => whnf)
 revert n; intro zn
 revert n; intro dn
 rw [hz]
 refine loop_rule [17] (fun vs M m => ∃ (k : Nat) (S : Own), vs = [.int .i64 k] ∧ k ≤ 288 ∧ S.ok 3 k (rowD k d0) ∧ m = 288 - k ∧ M = ⟨dn, .cells [S.val k] 206⟩ :: S.blk 203 (rowD k d0)) rfl ?_ ?_
 · exact fin_drop (fin_all ⟨_, 0, .nil, rfl, by omega, ⟨by rw [rowD_len], rfl⟩, rfl, rfl⟩)
 rintro vs junk M' m ⟨k, S, rfl, hk, hS, rfl, rfl⟩
 by_cases hk8 : k < 288
 · repeat' ((conv => whnf); first
    | refine app_wide (S := S) (n := k) (m := 1) (sz := 3) (e := 203) (xs := rowD k d0) (news := bC (d0 k)) rfl rfl rfl rfl rfl hS rfl (by omega) (by intro u hu; simp only [List.mem_cons, List.not_mem_nil, or_false] at hu; rcases hu with rfl | rfl | rfl <;> rfl) (by show (k + 1) * 40 ≤ _; omega) (by omega) (Ev.cells_from rfl) (fun S' hS' => ?_) | refine ld1_lit ?_ | refine nw (fun n => ?_) | refine bld ?_ | refine st_lit rfl ?_ | refine need (by first | rfl | omega) ?_ | (refine wr (fun z hz => ?_); (try rw [Int.tdiv_eq_ediv_of_nonneg (by omega)] at hz); rw [w64 (by omega) (by omega)] at hz; subst hz) | (refine ifs (fun h => ?_) (fun h => ?_) <;> try (exfalso; first | omega | with_reducible first | contradiction | exact h rfl)))
   all_goals (conv => whnf)
   exact ⟨rfl, fin_drop (fin_all ⟨288 - (k + 1), by omega, k + 1, S', rfl, by omega, by rw [rowD_succ]; exact hS', rfl, by rw [rowD_succ]⟩)⟩
 · obtain rfl : k = 288 := by omega
   cases S with
   | nil => exact absurd hS.2 (by decide)
   | at_ g cap junk =>
     repeat' ((conv => whnf); first
      | (refine ifs (fun h => ?_) (fun h => ?_) <;> try (exfalso; first | omega | with_reducible first | contradiction | exact h rfl)))
     all_goals (conv => whnf)
     exact fin_all ⟨⟨dn, g, cap, junk⟩, rfl, rfl⟩
def r0 : RigP := ⟨d0, d0, z96, false, 0, 0, 0, 0, 0, 0, ByteArray.empty, .inl rfl⟩
attribute [local irreducible] d0
theorem rnew : Fnc Tryz.prog 40 [] [] (fun e A => ∃ a, e = .returned (pt a.rn) ∧ A = rigM a r0) := by
 have hz : str (List.replicate 96 0) = z96 := by unfold z96; rfl
 refine fn_intro Tryz.func40 (by kernel_rfl) ?_
 repeat' ((conv => whnf); first
  | refine mk_row rfl rfl rfl rfl rfl (by decide) (by decide) (by decide) (fun n => ?_) | refine b2s_row (t := 5) (l := List.replicate 96 0) (junk := []) (by simp [u8s]) rfl rfl rfl (by simp) ?_ | refine nw (fun n => ?_) | refine bld ?_)
 all_goals (conv => whnf)
 revert n; intro rn
 rw [hz]
 refine to_row rn rfl ?_
 repeat' ((conv => whnf); first
  | refine st_row (n := rn) rfl (by simp) ?_ | refine loop_n 3 ?_ | refine draw_any 5 [(0, true), (1, true), (6, true), (7, true), (2, false), (3, true), (4, true), (5, true), (8, true), (9, false)] [] rfl (by kernel_rfl) ?_ | refine kept_nil ?_ | (refine call_fn dnew .nil (fun e A' hq => ?_); obtain ⟨a, h1, h2⟩ := hq; subst h1; subst h2) | (refine nv (fun z hz => ?_); (try simp at hz); replace hz := hz.symm; subst hz) | refine need (by first | rfl | omega) ?_ | (refine wr (fun z hz => ?_); (try rw [Int.tdiv_eq_ediv_of_nonneg (by omega)] at hz); rw [w64 (by omega) (by omega)] at hz; subst hz) | (refine ifs (fun h => ?_) (fun h => ?_) <;> try (exfalso; first | omega | with_reducible first | contradiction | exact h rfl)))
 all_goals (conv => whnf)
 revert a; intro a1
 revert a; intro a0
 exact fin_pick (A' := [⟨rn, _⟩, ⟨a0.dn, _⟩, ⟨a0.an, _⟩, ⟨a1.dn, _⟩, ⟨a1.an, _⟩]) (.cons takeC (.cons takeC (.cons takeC (.cons takeC (.cons takeC .nil))))) ⟨⟨rn, a0, a1⟩, rfl, rfl⟩
end Rig
namespace Rig
open Go Ev Sha Aes
theorem rowD_at {n i k : Nat} {d : DevC} {junk : List Value} (hi : i < n) (hk : k < 3) : (rowD n d ++ junk)[i * 3 + k]? = (bC (d i))[k]? := by
 rw [List.getElem?_append_left (by rw [rowD_len]; omega), rowD_get hi hk]
theorem bC_set {b b' : B3} {k : Nat} {v : Value} (h : bC b' = (bC b).set k v) {n i : Nat} {d : DevC} (hd : d i = b) (hi : i < n) (hk : k < 3) (junk : List Value) : (rowD n d ++ junk).set (i * 3 + k) v = rowD n (updD d i b') ++ junk := by
 rw [List.set_append_left _ _ (by rw [rowD_len]; omega)]
 congr 1
 apply List.ext_getElem?
 intro j
 rw [List.getElem?_set, rowD_len]
 have hm := Nat.mod_lt j (show 0 < 3 by omega)
 have ej : j = j / 3 * 3 + j % 3 := by omega
 by_cases hj : j < n * 3
 · have hjn : j / 3 < n := by omega
   have e2 : (rowD n (updD d i b'))[j]? = (bC (updD d i b' (j / 3)))[j % 3]? := by
    conv => lhs; rw [ej]
    exact rowD_get hjn hm
   have e1 : (rowD n d)[j]? = (bC (d (j / 3)))[j % 3]? := by
    conv => lhs; rw [ej]
    exact rowD_get hjn hm
   rw [e2, e1]
   unfold updD
   by_cases e : i * 3 + k = j
   · have hq : j / 3 = i := by omega
     have hr : j % 3 = k := by omega
     rw [if_pos e, if_pos (by omega), if_pos hq, hr, h, List.getElem?_set, if_pos rfl, if_pos (by simpa using hk)]
   · rw [if_neg e]
     by_cases hq : j / 3 = i
     · rw [if_pos hq, h, List.getElem?_set, if_neg (by omega), hq, hd]
     · rw [if_neg hq]
 · rw [if_neg (by omega), List.getElem?_eq_none (by rw [rowD_len]; omega), List.getElem?_eq_none (by rw [rowD_len]; omega)]
section
variable {P : Program} {M : List Blk} {n i : Nat} {T : TypeId} {f : Blk → List Blk} {d : DevC} {junk : List Value} {k : List Blk → Prop}
theorem rd_len (d : DevC) (junk : List Value) : 864 ≤ (rowD 288 d ++ junk).length := by rw [List.length_append, rowD_len]; omega
theorem st_now {s : ByteArray} [z : Zip M n (.row (rowD 288 d ++ junk) T) f] (hi : i < 288) (hk : k (f ⟨n, .row (rowD 288 (updD d i { (d i) with now := s }) ++ junk) T⟩)) : StN P M n (i * 3 + 0) [.string s] k :=
 st_row rfl (by have := rd_len d junk; omega) (by rw [bC_set (b := d i) (b' := { (d i) with now := s }) rfl rfl hi (by omega)]; exact hk)
theorem st_safe {s : ByteArray} [z : Zip M n (.row (rowD 288 d ++ junk) T) f] (hi : i < 288) (hk : k (f ⟨n, .row (rowD 288 (updD d i { (d i) with safe := s }) ++ junk) T⟩)) : StN P M n (i * 3 + 1) [.string s] k :=
 st_row rfl (by have := rd_len d junk; omega) (by rw [bC_set (b := d i) (b' := { (d i) with safe := s }) rfl rfl hi (by omega)]; exact hk)
theorem st_is {b : Bool} [z : Zip M n (.row (rowD 288 d ++ junk) T) f] (hi : i < 288) (hk : k (f ⟨n, .row (rowD 288 (updD d i { (d i) with is := b }) ++ junk) T⟩)) : StN P M n (i * 3 + 2) [.bool b] k :=
 st_row rfl (by have := rd_len d junk; omega) (by rw [bC_set (b := d i) (b' := { (d i) with is := b }) rfl rfl hi (by omega)]; exact hk)
end
theorem upd_write (d : DevC) (i : Nat) (s : ByteArray) : updD (updD d i { (d i) with now := s }) i { (updD d i { (d i) with now := s } i) with is := true } = writeD d i s := by
 funext j; unfold writeD updD; by_cases h : j = i
 · subst h; simp
 · simp [h]
theorem upd_tamp (d : DevC) (i : Nat) (s : ByteArray) : updD (updD d i { (d i) with now := s }) i { (updD d i { (d i) with now := s } i) with safe := s } = updD d i { (d i) with now := s, safe := s } := by
 funext j; unfold updD; by_cases h : j = i
 · subst h; simp
 · simp [h]
def flI (d : DevC) (k : Nat) : DevC := fun i => if i < k then ⟨(d i).now, (d i).now, false⟩ else d i
theorem flI_0 (d : DevC) : flI d 0 = d := by funext i; unfold flI; rw [if_neg (by omega)]
theorem flI_succ (d : DevC) (k : Nat) : updD (updD (flI d k) k { (flI d k k) with safe := (flI d k k).now }) k { (updD (flI d k) k { (flI d k k) with safe := (flI d k k).now } k) with is := false } = flI d (k + 1) := by
 funext i
 unfold updD
 by_cases h : i = k
 · subst h; simp; unfold flI; simp
 · simp [h]; unfold flI; by_cases h2 : i < k
   · rw [if_pos h2, if_pos (by omega)]
   · rw [if_neg h2, if_neg (by omega)]
theorem flI_end (d : DevC) : rowD 288 (flI d 288) = rowD 288 (flushD d) := by
 unfold rowD
 refine congrArg List.flatten (List.map_congr_left fun i hi => ?_)
 have := List.mem_range.1 hi
 unfold flI flushD
 simp only
 rw [if_pos this]
def dmayE (i : Int) (s : ByteArray) : Int := if i < 0 ∨ 288 ≤ i then 3 else if s.size ≠ 64 then 6 else 0
attribute [local irreducible] rowD
theorem dmay (a : DevA) (d : DevC) (i : Int) (s : ByteArray) : Fnc Tryz.prog 202 [pt a.dn, .int .i64 i, .string s] (devM a d) (Ret (.int .i64 (dmayE i s)) (devM a d)) := by
 unfold devM
 refine fn_intro Tryz.func202 (by kernel_rfl) ?_
 repeat' ((conv => whnf); first
  | refine ld1_lit ?_ | (refine ifs (fun h => ?_) (fun h => ?_) <;> try (exfalso; first | omega | with_reducible first | contradiction | exact h rfl)))
 all_goals (conv => whnf)
 all_goals exact fin_all ⟨ret_int (by unfold dmayE; (repeat' split) <;> omega), rfl⟩
theorem dread (a : DevA) (d : DevC) (i : Nat) (hi : i < 288) : Fnc Tryz.prog 234 [pt a.dn, .int .i64 i] (devM a d) (Ret (.tuple #[.string (d i).now, .int .i64 0]) (devM a d)) := by
 unfold devM
 refine fn_intro Tryz.func234 (by kernel_rfl) ?_
 repeat' ((conv => whnf); first
  | refine nv_eq (a := i * 3) (by omega) ?_ | refine ld1_row (n := a.an) (v := .string (d i).now) (rowD_at hi (by omega)) ?_ | refine ld1_lit ?_ | refine need (by first | rfl | omega) ?_ | (refine ifs (fun h => ?_) (fun h => ?_) <;> try (exfalso; first | omega | with_reducible first | contradiction | exact h rfl)))
 all_goals (conv => whnf)
 all_goals exact fin_all ⟨rfl, rfl⟩
theorem dwrite (a : DevA) (d : DevC) (i : Nat) (s : ByteArray) (hi : i < 288) (hs : s.size = 64) : Fnc Tryz.prog 158 [pt a.dn, .int .i64 i, .string s] (devM a d) (Ret (.int .i64 0) (devM a (writeD d i s))) := by
 have hm := dmay a d i s
 rw [show dmayE i s = 0 by unfold dmayE; rw [if_neg (by omega), if_neg (by omega)]] at hm
 unfold devM at hm ⊢
 refine fn_intro Tryz.func158 (by kernel_rfl) ?_
 repeat' ((conv => whnf); first
  | refine call_ret hm (.cons takeC (.cons takeC .nil)) ?_ | refine draw_any 4 [(0, true), (1, true), (2, true), (4, true), (5, true), (6, true), (7, true), (9, true), (10, true), (3, true), (8, false), (11, true), (12, true), (13, false), (14, true), (15, true), (16, false)] [⟨a.dn, _⟩] rfl (by kernel_rfl) (kept1 ?_) | refine kept1 (n := a.dn) ?_ | refine fld1 ?_ | refine nv_eq (a := i * 3) (by omega) ?_ | refine st_now (n := a.an) hi ?_ | refine st_is (n := a.an) hi ?_ | refine ld1_lit ?_ | refine need (by first | rfl | omega) ?_ | (refine ifs (fun h => ?_) (fun h => ?_) <;> try (exfalso; first | omega | with_reducible first | contradiction | exact h rfl)))
 all_goals (conv => whnf)
 all_goals exact fin_all ⟨rfl, by rw [upd_write]⟩
theorem dtamper_ok (a : DevA) (d : DevC) (i : Nat) (s : ByteArray) (hi : i < 288) (hs : s.size = 64) : Fnc Tryz.prog 201 [pt a.dn, .int .i64 i, .string s] (devM a d) (Ret (.int .i64 0) (devM a (updD d i { (d i) with now := s, safe := s }))) := by
 have hm := dmay a d i s
 rw [show dmayE i s = 0 by unfold dmayE; rw [if_neg (by omega), if_neg (by omega)]] at hm
 unfold devM at hm ⊢
 refine fn_intro Tryz.func201 (by kernel_rfl) ?_
 repeat' ((conv => whnf); first
  | refine call_ret hm (.cons takeC (.cons takeC .nil)) ?_ | refine draw_any 4 [(0, true), (1, true), (2, true), (4, true), (5, true), (6, true), (7, true), (9, true), (10, true), (11, true), (3, true), (8, false), (12, true), (13, true), (14, false), (15, true), (16, true), (17, false)] [⟨a.dn, _⟩] rfl (by kernel_rfl) (kept1 ?_) | refine kept1 (n := a.dn) ?_ | refine fld1 ?_ | refine nv_eq (a := i * 3) (by omega) ?_ | refine st_now (n := a.an) hi ?_ | refine st_safe (n := a.an) hi ?_ | refine ld1_lit ?_ | refine need (by first | rfl | omega) ?_ | (refine ifs (fun h => ?_) (fun h => ?_) <;> try (exfalso; first | omega | with_reducible first | contradiction | exact h rfl)))
 all_goals (conv => whnf)
 all_goals exact fin_all ⟨rfl, by rw [upd_tamp]⟩
theorem dtamper_no (a : DevA) (d : DevC) (i : Int) (s : ByteArray) (h : ¬ (0 ≤ i ∧ i < 288 ∧ s.size = 64)) : Fnc Tryz.prog 201 [pt a.dn, .int .i64 i, .string s] (devM a d) (Ret (.int .i64 (dmayE i s)) (devM a d)) := by
 have hm := dmay a d i s
 have hne : dmayE i s ≠ 0 := by unfold dmayE; (repeat' split) <;> omega
 unfold devM at hm ⊢
 generalize dmayE i s = e at *
 refine fn_intro Tryz.func201 (by kernel_rfl) ?_
 repeat' ((conv => whnf); first
  | refine call_ret hm (.cons takeC (.cons takeC .nil)) ?_ | (refine ifs (fun h => ?_) (fun h => ?_) <;> try (exfalso; first | omega | with_reducible first | contradiction | exact h rfl)))
 all_goals (conv => whnf)
 all_goals exact fin_all ⟨rfl, rfl⟩
theorem dflush (a : DevA) (d : DevC) : Fnc Tryz.prog 208 [pt a.dn] (devM a d) (Ret (.int .i64 0) (devM a (flushD d))) := by
 unfold devM
 refine fn_intro Tryz.func208 (by kernel_rfl) ?_
 repeat' ((conv => whnf); first
  | refine ld1_lit ?_)
 all_goals (conv => whnf)
 refine loop_rule [12] (fun vs M m => ∃ k : Nat, vs = [.int .i64 k] ∧ k ≤ 288 ∧ m = 288 - k ∧ M = [⟨a.dn, .cells [.slice (some ⟨a.an, 0, none⟩) 288 a.cap] 206⟩, ⟨a.an, .row (rowD 288 (flI d k) ++ a.junk) 203⟩]) rfl ?_ ?_
 · exact fin_all ⟨_, 0, rfl, by omega, rfl, by rw [flI_0]⟩
 rintro vs junk M' m ⟨k, rfl, hk, rfl, rfl⟩
 by_cases hk8 : k < 288
 · repeat' ((conv => whnf); first
    | refine nv_eq (a := k * 3) (by omega) ?_ | refine ld1_row (n := a.an) (v := .string (flI d k k).now) (rowD_at hk8 (by omega)) ?_ | refine st_safe (n := a.an) hk8 ?_ | refine st_is (n := a.an) hk8 ?_ | refine ld1_lit ?_ | refine need (by first | rfl | omega) ?_ | (refine wr (fun z hz => ?_); (try rw [Int.tdiv_eq_ediv_of_nonneg (by omega)] at hz); rw [w64 (by omega) (by omega)] at hz; subst hz) | (refine ifs (fun h => ?_) (fun h => ?_) <;> try (exfalso; first | omega | with_reducible first | contradiction | exact h rfl)))
   all_goals (conv => whnf)
   all_goals exact ⟨rfl, fin_all ⟨288 - (k + 1), by omega, k + 1, rfl, by omega, rfl, by rw [flI_succ]⟩⟩
 · obtain rfl : k = 288 := by omega
   repeat' ((conv => whnf); first
    | (refine ifs (fun h => ?_) (fun h => ?_) <;> try (exfalso; first | omega | with_reducible first | contradiction | exact h rfl)))
   all_goals (conv => whnf)
   all_goals exact fin_all ⟨rfl, by rw [flI_end]⟩
end Rig
namespace Rig
open Go Ev Sha Aes
attribute [local irreducible] rowD
theorem comes_ (n off : Nat) (cs : List Value) (t : TypeId) (z : Int) (hz : cs[off]? = some (.int .i64 z)) : Fnc Tryz.prog 200 [.pointer (some ⟨n, off, none⟩)] [⟨n, .row cs t⟩]
 (Ret (.bool (comes z).2) [⟨n, .row (cs.set off (.int .i64 (comes z).1)) t⟩]) := by
 have hl : off < cs.length := (List.getElem?_eq_some_iff.1 hz).1
 have hs : cs.set off (.int .i64 z) = cs := by
  apply List.ext_getElem?
  intro j
  rw [List.getElem?_set]
  by_cases h : off = j
  · subst h; rw [if_pos rfl, if_pos hl, hz]
  · rw [if_neg h]
 refine fn_intro Tryz.func200 (by kernel_rfl) ?_
 repeat' ((conv => whnf); first
  | refine ld1_row hz ?_ | refine ld1_row (v := .int .i64 (IntKind.i64.wrap (z - 1))) (by rw [List.getElem?_set, if_pos rfl, if_pos hl]) ?_ | refine st_row rfl hl ?_ | (refine wr (fun y hy => ?_); subst hy) | refine need (by first | rfl | omega) ?_ | (refine ifs (fun h => ?_) (fun h => ?_) <;> try (exfalso; first | omega | with_reducible first | contradiction | exact h rfl)))
 all_goals (conv => whnf)
 · have e : comes z = (z, false) := by unfold comes; rw [if_pos (by assumption)]
   exact fin_all ⟨by rw [e]; rfl, by rw [e]; rw [hs]⟩
 · have e : comes z = (IntKind.i64.wrap (z - 1), true) := by unfold comes; rw [if_neg (by assumption), decide_eq_true (by assumption)]
   exact fin_all ⟨by rw [e]; rfl, by rw [e]⟩
 · have e : comes z = (IntKind.i64.wrap (z - 1), false) := by unfold comes; rw [if_neg (by assumption), decide_eq_false (by assumption)]
   exact fin_all ⟨by rw [e]; rfl, by rw [e]⟩
abbrev rB (a : RigA) (r : RigP) : Blk := ⟨a.rn, .row (rigC a r) 150⟩
theorem comes_later (a : RigA) (r : RigP) : Fnc Tryz.prog 200 [.pointer (some ⟨a.rn, 5, none⟩)] [rB a r] (Ret (.bool (comes r.later).2) [rB a { r with later := (comes r.later).1 }]) := comes_ a.rn 5 (rigC a r) _ r.later rfl
theorem comes_fault (a : RigA) (r : RigP) : Fnc Tryz.prog 200 [.pointer (some ⟨a.rn, 7, none⟩)] [rB a r] (Ret (.bool (comes r.fault).2) [rB a { r with fault := (comes r.fault).1 }]) := comes_ a.rn 7 (rigC a r) _ r.fault rfl
theorem comes_arm (a : RigA) (r : RigP) : Fnc Tryz.prog 200 [.pointer (some ⟨a.rn, 6, none⟩)] [rB a r] (Ret (.bool (comes r.arm).2) [rB a { r with arm := (comes r.arm).1 }]) := comes_ a.rn 6 (rigC a r) _ r.arm rfl
section
variable {P : Program} {M : List Blk} {a : RigA} {r : RigP} {f : Blk → List Blk} {k : List Blk → Prop} {T : TypeId}
theorem st_down {b : Bool} [z : Zip M a.rn (.row (rigC a r) T) f] (hk : k (f ⟨a.rn, .row (rigC a { r with down := b }) T⟩)) : StN P M a.rn 3 [.bool b] k := st_row rfl (by simp [rigC]) hk
theorem st_calls {x : Int} [z : Zip M a.rn (.row (rigC a r) T) f] (hk : k (f ⟨a.rn, .row (rigC a { r with calls := x }) T⟩)) : StN P M a.rn 4 [.int .i64 x] k := st_row rfl (by simp [rigC]) hk
theorem st_reg {s : ByteArray} [z : Zip M a.rn (.row (rigC a r) T) f] (hk : k (f ⟨a.rn, .row (rigC a { r with reg := s }) T⟩)) : StN P M a.rn 2 [.string s] k := st_row rfl (by simp [rigC]) hk
end
theorem may_ (a : RigA) (r : RigP) (d i : Int) : Fnc Tryz.prog 155 [pt a.rn, .int .i64 d, .int .i64 i] [] (Ret (.int .i64 (mayE d i)) []) := by
 refine fn_intro Tryz.func155 (by kernel_rfl) ?_
 repeat' ((conv => whnf); first
  | (refine ifs (fun h => ?_) (fun h => ?_) <;> try (exfalso; first | omega | with_reducible first | contradiction | exact h rfl)))
 all_goals (conv => whnf)
 all_goals exact fin_nil ⟨ret_int (by unfold mayE; (repeat' split) <;> omega), rfl⟩
attribute [local irreducible] comes
def StepQ (x : Rg) (A : List Blk) (v : Value) (A' : List Blk) : Ending → List Blk → Prop := fun e M =>
 match (tick x.r).2 with
 | some c => e = .returned (.int .i64 c) ∧ M = rgM ⟨x.a, (tick x.r).1⟩ ++ A
 | none => e = .returned v ∧ M = A'
theorem dtamper (a : DevA) (d : DevC) (i : Int) (s : ByteArray) : ∃ e, Fnc Tryz.prog 201 [pt a.dn, .int .i64 i, .string s] (devM a d) (Ret (.int .i64 e) (devM a (tamperD d i s))) := by
 unfold tamperD
 by_cases h : 0 ≤ i ∧ i < 288 ∧ s.size = 64
 · rw [if_pos h]
   have := dtamper_ok a d i.toNat s (by omega) h.2.2
   rw [show ((i.toNat : Nat) : Int) = i by omega] at this
   exact ⟨_, this⟩
 · rw [if_neg h]
   exact ⟨_, dtamper_no a d i s h⟩
theorem app_of {α : Type} {l m : List α} {k : List α → Prop} (h : k (l ++ m)) : appK l m k := by rw [appK_eq]; exact h
attribute [local irreducible] devM
theorem step_ (x : Rg) (f : FuncId) (fs cs : List Value) (A A' : List Blk) (v : Value) (h : (tick x.r).2 = none → Fnc Tryz.prog f (fs ++ cs) (rgM ⟨x.a, (tick x.r).1⟩ ++ A) (Ret v A')) :
 Fnc Tryz.prog 156 [pt x.a.rn, .func (.func f) fs.toArray cs.toArray] (rgM x ++ A) (StepQ x A v A') := by
 obtain ⟨⟨rn, a0, a1⟩, r⟩ := x
 have hq : StepQ ⟨⟨rn, a0, a1⟩, r⟩ A v A' = fun e M => match (tick r).2 with
  | some c => e = .returned (.int .i64 c) ∧ M = rB ⟨rn, a0, a1⟩ (tick r).1 :: (devM a0 (tick r).1.d0 ++ (devM a1 (tick r).1.d1 ++ A))
  | none => e = .returned v ∧ M = A' := by
  funext e M
  unfold StepQ rgM rigM
  simp only [List.cons_append, List.append_assoc]
 rw [hq]
 unfold rgM rigM at h ⊢
 simp only [List.cons_append, List.append_assoc] at h ⊢
 clear hq
 obtain ⟨q0, q1, reg, down, calls, later, arm, fault, td, ti, ts, htd⟩ := r
 cases down with
 | true =>
   have ht : tick ⟨q0, q1, reg, true, calls, later, arm, fault, td, ti, ts, htd⟩ = (⟨q0, q1, reg, true, calls, later, arm, fault, td, ti, ts, htd⟩, some 11) := by unfold tick; rw [if_pos rfl]
   rw [ht]
   refine fn_intro Tryz.func156 (by kernel_rfl) ?_
   repeat' ((conv => whnf); first
    | refine ld1_row rfl ?_)
   all_goals (conv => whnf)
   all_goals exact fin_all ⟨rfl, rfl⟩
 | false =>
   cases hl : (comes later).2 with
   | false =>
     cases ha : (comes arm).2 with
     | true =>
       have ek : tk ⟨q0, q1, reg, false, calls, later, arm, fault, td, ti, ts, htd⟩ = ⟨q0, q1, reg, false, (IntKind.i64.wrap (calls + 1)), (comes later).1, (comes arm).1, (comes fault).1, td, ti, ts, htd⟩ := by
        unfold tk tk1 tk0; rw [if_neg (by simp [hl])]
       have c1 := comes_later ⟨rn, a0, a1⟩ ⟨q0, q1, reg, false, (IntKind.i64.wrap (calls + 1)), later, arm, fault, td, ti, ts, htd⟩
       have c2 := comes_fault ⟨rn, a0, a1⟩ ⟨q0, q1, reg, false, (IntKind.i64.wrap (calls + 1)), (comes later).1, arm, fault, td, ti, ts, htd⟩
       have c3 := comes_arm ⟨rn, a0, a1⟩ ⟨q0, q1, reg, false, (IntKind.i64.wrap (calls + 1)), (comes later).1, arm, (comes fault).1, td, ti, ts, htd⟩
       have ht : tick ⟨q0, q1, reg, false, calls, later, arm, fault, td, ti, ts, htd⟩ = ({ tk ⟨q0, q1, reg, false, calls, later, arm, fault, td, ti, ts, htd⟩ with down := true }, some 11) := by
        unfold tick; rw [if_neg (by simp), if_pos ha]
       rw [ht, ek]
       simp only [hl, ha] at c1 c2 c3
       refine fn_intro Tryz.func156 (by kernel_rfl) ?_
       repeat' ((conv => whnf); first
        | refine ld1_row rfl ?_ | refine st_calls (a := ⟨rn, a0, a1⟩) ?_ | refine st_down (a := ⟨rn, a0, a1⟩) ?_ | (refine wr (fun y hy => ?_); subst hy) | refine call_gr c1 (.blk takeC .nil) ?_ | refine call_gr c2 (.blk takeC .nil) ?_ | refine call_gr c3 (.blk takeC .nil) ?_ | refine need (by first | rfl | omega) ?_)
       all_goals (conv => whnf)
       all_goals exact fin_g (A := rB ⟨rn, a0, a1⟩ _ :: (devM a0 _ ++ (devM a1 _ ++ A))) (.blk takeC (.grp takeG (.grp takeG (.one takeE)))) ⟨rfl, rfl⟩
     | false =>
       cases hf : (comes fault).2 with
       | true =>
         have ek : tk ⟨q0, q1, reg, false, calls, later, arm, fault, td, ti, ts, htd⟩ = ⟨q0, q1, reg, false, (IntKind.i64.wrap (calls + 1)), (comes later).1, (comes arm).1, (comes fault).1, td, ti, ts, htd⟩ := by
          unfold tk tk1 tk0; rw [if_neg (by simp [hl])]
         have c1 := comes_later ⟨rn, a0, a1⟩ ⟨q0, q1, reg, false, (IntKind.i64.wrap (calls + 1)), later, arm, fault, td, ti, ts, htd⟩
         have c2 := comes_fault ⟨rn, a0, a1⟩ ⟨q0, q1, reg, false, (IntKind.i64.wrap (calls + 1)), (comes later).1, arm, fault, td, ti, ts, htd⟩
         have c3 := comes_arm ⟨rn, a0, a1⟩ ⟨q0, q1, reg, false, (IntKind.i64.wrap (calls + 1)), (comes later).1, arm, (comes fault).1, td, ti, ts, htd⟩
         have ht : tick ⟨q0, q1, reg, false, calls, later, arm, fault, td, ti, ts, htd⟩ = (tk ⟨q0, q1, reg, false, calls, later, arm, fault, td, ti, ts, htd⟩, some 10) := by
          unfold tick; rw [if_neg (by simp), if_neg (by simp [ha]), if_pos hf]
         rw [ht, ek]
         simp only [hl, ha, hf] at c1 c2 c3
         refine fn_intro Tryz.func156 (by kernel_rfl) ?_
         repeat' ((conv => whnf); first
          | refine ld1_row rfl ?_ | refine st_calls (a := ⟨rn, a0, a1⟩) ?_ | (refine wr (fun y hy => ?_); subst hy) | refine call_gr c1 (.blk takeC .nil) ?_ | refine call_gr c2 (.blk takeC .nil) ?_ | refine call_gr c3 (.blk takeC .nil) ?_ | refine need (by first | rfl | omega) ?_)
         all_goals (conv => whnf)
         all_goals exact fin_g (A := rB ⟨rn, a0, a1⟩ _ :: (devM a0 _ ++ (devM a1 _ ++ A))) (.blk takeC (.grp takeG (.grp takeG (.one takeE)))) ⟨rfl, rfl⟩
       | false =>
         have ek : tk ⟨q0, q1, reg, false, calls, later, arm, fault, td, ti, ts, htd⟩ = ⟨q0, q1, reg, false, (IntKind.i64.wrap (calls + 1)), (comes later).1, (comes arm).1, (comes fault).1, td, ti, ts, htd⟩ := by
          unfold tk tk1 tk0; rw [if_neg (by simp [hl])]
         have c1 := comes_later ⟨rn, a0, a1⟩ ⟨q0, q1, reg, false, (IntKind.i64.wrap (calls + 1)), later, arm, fault, td, ti, ts, htd⟩
         have c2 := comes_fault ⟨rn, a0, a1⟩ ⟨q0, q1, reg, false, (IntKind.i64.wrap (calls + 1)), (comes later).1, arm, fault, td, ti, ts, htd⟩
         have c3 := comes_arm ⟨rn, a0, a1⟩ ⟨q0, q1, reg, false, (IntKind.i64.wrap (calls + 1)), (comes later).1, arm, (comes fault).1, td, ti, ts, htd⟩
         have ht : tick ⟨q0, q1, reg, false, calls, later, arm, fault, td, ti, ts, htd⟩ = (tk ⟨q0, q1, reg, false, calls, later, arm, fault, td, ti, ts, htd⟩, none) := by
          unfold tick; rw [if_neg (by simp), if_neg (by simp [ha]), if_neg (by simp [hf])]
         have h' := h (by rw [ht])
         rw [ht, ek] at h'
         rw [ht]
         have h'' := h'
         rw [← List.append_nil fs] at h''
         simp only [hl, ha, hf] at c1 c2 c3
         refine fn_intro Tryz.func156 (by kernel_rfl) ?_
         repeat' ((conv => whnf); first
          | refine ld1_row rfl ?_ | refine st_calls (a := ⟨rn, a0, a1⟩) ?_ | (refine wr (fun y hy => ?_); subst hy) | refine call_gr c1 (.blk takeC .nil) ?_ | refine call_gr c2 (.blk takeC .nil) ?_ | refine call_gr c3 (.blk takeC .nil) ?_ | refine call_gr (A := _ :: _) h'' (.blk takeC (.grp takeG (.grp takeG (.one takeE)))) ?_ | refine app_of ?_ | refine need (by first | rfl | omega) ?_)
         all_goals (conv => whnf)
         all_goals exact fin_g (A := A') (.one takeE) ⟨rfl, rfl⟩
   | true =>
     have htd2 := htd
     rcases htd2 with hq | hq
     · cases ha : (comes arm).2 with
       | true =>
         subst hq
         have ek : tk ⟨q0, q1, reg, false, calls, later, arm, fault, 0, ti, ts, htd⟩ = ⟨(tamperD q0 ti ts), q1, reg, false, (IntKind.i64.wrap (calls + 1)), (comes later).1, (comes arm).1, (comes fault).1, 0, ti, ts, htd⟩ := by
          unfold tk tk1 tk0; rw [if_pos hl]; rfl
         have c1 := comes_later ⟨rn, a0, a1⟩ ⟨q0, q1, reg, false, (IntKind.i64.wrap (calls + 1)), later, arm, fault, 0, ti, ts, htd⟩
         have c2 := comes_fault ⟨rn, a0, a1⟩ ⟨(tamperD q0 ti ts), q1, reg, false, (IntKind.i64.wrap (calls + 1)), (comes later).1, arm, fault, 0, ti, ts, htd⟩
         have c3 := comes_arm ⟨rn, a0, a1⟩ ⟨(tamperD q0 ti ts), q1, reg, false, (IntKind.i64.wrap (calls + 1)), (comes later).1, arm, (comes fault).1, 0, ti, ts, htd⟩
         obtain ⟨te, ct⟩ := dtamper a0 q0 ti ts
         have ht : tick ⟨q0, q1, reg, false, calls, later, arm, fault, 0, ti, ts, htd⟩ = ({ tk ⟨q0, q1, reg, false, calls, later, arm, fault, 0, ti, ts, htd⟩ with down := true }, some 11) := by
          unfold tick; rw [if_neg (by simp), if_pos ha]
         rw [ht, ek]
         simp only [hl, ha] at c1 c2 c3
         refine fn_intro Tryz.func156 (by kernel_rfl) ?_
         repeat' ((conv => whnf); first
          | refine ld1_row rfl ?_ | refine st_calls (a := ⟨rn, a0, a1⟩) ?_ | refine st_down (a := ⟨rn, a0, a1⟩) ?_ | (refine wr (fun y hy => ?_); subst hy) | refine call_gr c1 (.blk takeC .nil) ?_ | refine call_gr c2 (.blk takeC .nil) ?_ | refine call_gr c3 (.blk takeC .nil) ?_ | refine draw_any 5 [(0, true), (1, true), (2, true), (3, true), (4, true), (6, true), (7, true), (10, true), (11, true), (12, true), (13, true), (15, true), (16, true), (17, true), (18, true), (5, true), (8, true), (9, true), (14, true), (19, false), (20, false)] [⟨rn, _⟩] rfl (by kernel_rfl) (kept1 ?_) | refine kept1 (n := rn) ?_ | refine fld1_row (n := rn) rfl ?_ | refine nv_eq (a := 0) rfl ?_ | refine need (show (0 : Int) ≤ 0 ∧ (0 : Int) < ((2 : Nat) : Int) by decide) ?_ | refine call_gr ct (.one takeG) ?_ | refine need (by first | rfl | omega) ?_)
         all_goals (conv => whnf)
         all_goals exact fin_g (A := rB ⟨rn, a0, a1⟩ _ :: (devM a0 _ ++ (devM a1 _ ++ A))) (.blk takeC (.grp takeG (.grp takeG (.one takeE)))) ⟨rfl, rfl⟩
       | false =>
         cases hf : (comes fault).2 with
         | true =>
           subst hq
           have ek : tk ⟨q0, q1, reg, false, calls, later, arm, fault, 0, ti, ts, htd⟩ = ⟨(tamperD q0 ti ts), q1, reg, false, (IntKind.i64.wrap (calls + 1)), (comes later).1, (comes arm).1, (comes fault).1, 0, ti, ts, htd⟩ := by
            unfold tk tk1 tk0; rw [if_pos hl]; rfl
           have c1 := comes_later ⟨rn, a0, a1⟩ ⟨q0, q1, reg, false, (IntKind.i64.wrap (calls + 1)), later, arm, fault, 0, ti, ts, htd⟩
           have c2 := comes_fault ⟨rn, a0, a1⟩ ⟨(tamperD q0 ti ts), q1, reg, false, (IntKind.i64.wrap (calls + 1)), (comes later).1, arm, fault, 0, ti, ts, htd⟩
           have c3 := comes_arm ⟨rn, a0, a1⟩ ⟨(tamperD q0 ti ts), q1, reg, false, (IntKind.i64.wrap (calls + 1)), (comes later).1, arm, (comes fault).1, 0, ti, ts, htd⟩
           obtain ⟨te, ct⟩ := dtamper a0 q0 ti ts
           have ht : tick ⟨q0, q1, reg, false, calls, later, arm, fault, 0, ti, ts, htd⟩ = (tk ⟨q0, q1, reg, false, calls, later, arm, fault, 0, ti, ts, htd⟩, some 10) := by
            unfold tick; rw [if_neg (by simp), if_neg (by simp [ha]), if_pos hf]
           rw [ht, ek]
           simp only [hl, ha, hf] at c1 c2 c3
           refine fn_intro Tryz.func156 (by kernel_rfl) ?_
           repeat' ((conv => whnf); first
            | refine ld1_row rfl ?_ | refine st_calls (a := ⟨rn, a0, a1⟩) ?_ | (refine wr (fun y hy => ?_); subst hy) | refine call_gr c1 (.blk takeC .nil) ?_ | refine call_gr c2 (.blk takeC .nil) ?_ | refine call_gr c3 (.blk takeC .nil) ?_ | refine draw_any 5 [(0, true), (1, true), (2, true), (3, true), (4, true), (6, true), (7, true), (10, true), (11, true), (12, true), (13, true), (15, true), (16, true), (17, true), (18, true), (5, true), (8, true), (9, true), (14, true), (19, false), (20, false)] [⟨rn, _⟩] rfl (by kernel_rfl) (kept1 ?_) | refine kept1 (n := rn) ?_ | refine fld1_row (n := rn) rfl ?_ | refine nv_eq (a := 0) rfl ?_ | refine need (show (0 : Int) ≤ 0 ∧ (0 : Int) < ((2 : Nat) : Int) by decide) ?_ | refine call_gr ct (.one takeG) ?_ | refine need (by first | rfl | omega) ?_)
           all_goals (conv => whnf)
           all_goals exact fin_g (A := rB ⟨rn, a0, a1⟩ _ :: (devM a0 _ ++ (devM a1 _ ++ A))) (.blk takeC (.grp takeG (.grp takeG (.one takeE)))) ⟨rfl, rfl⟩
         | false =>
           subst hq
           have ek : tk ⟨q0, q1, reg, false, calls, later, arm, fault, 0, ti, ts, htd⟩ = ⟨(tamperD q0 ti ts), q1, reg, false, (IntKind.i64.wrap (calls + 1)), (comes later).1, (comes arm).1, (comes fault).1, 0, ti, ts, htd⟩ := by
            unfold tk tk1 tk0; rw [if_pos hl]; rfl
           have c1 := comes_later ⟨rn, a0, a1⟩ ⟨q0, q1, reg, false, (IntKind.i64.wrap (calls + 1)), later, arm, fault, 0, ti, ts, htd⟩
           have c2 := comes_fault ⟨rn, a0, a1⟩ ⟨(tamperD q0 ti ts), q1, reg, false, (IntKind.i64.wrap (calls + 1)), (comes later).1, arm, fault, 0, ti, ts, htd⟩
           have c3 := comes_arm ⟨rn, a0, a1⟩ ⟨(tamperD q0 ti ts), q1, reg, false, (IntKind.i64.wrap (calls + 1)), (comes later).1, arm, (comes fault).1, 0, ti, ts, htd⟩
           obtain ⟨te, ct⟩ := dtamper a0 q0 ti ts
           have ht : tick ⟨q0, q1, reg, false, calls, later, arm, fault, 0, ti, ts, htd⟩ = (tk ⟨q0, q1, reg, false, calls, later, arm, fault, 0, ti, ts, htd⟩, none) := by
            unfold tick; rw [if_neg (by simp), if_neg (by simp [ha]), if_neg (by simp [hf])]
           have h' := h (by rw [ht])
           rw [ht, ek] at h'
           rw [ht]
           have h'' := h'
           rw [← List.append_nil fs] at h''
           simp only [hl, ha, hf] at c1 c2 c3
           refine fn_intro Tryz.func156 (by kernel_rfl) ?_
           repeat' ((conv => whnf); first
            | refine ld1_row rfl ?_ | refine st_calls (a := ⟨rn, a0, a1⟩) ?_ | (refine wr (fun y hy => ?_); subst hy) | refine call_gr c1 (.blk takeC .nil) ?_ | refine call_gr c2 (.blk takeC .nil) ?_ | refine call_gr c3 (.blk takeC .nil) ?_ | refine draw_any 5 [(0, true), (1, true), (2, true), (3, true), (4, true), (6, true), (7, true), (10, true), (11, true), (12, true), (13, true), (15, true), (16, true), (17, true), (18, true), (5, true), (8, true), (9, true), (14, true), (19, false), (20, false)] [⟨rn, _⟩] rfl (by kernel_rfl) (kept1 ?_) | refine kept1 (n := rn) ?_ | refine fld1_row (n := rn) rfl ?_ | refine nv_eq (a := 0) rfl ?_ | refine need (show (0 : Int) ≤ 0 ∧ (0 : Int) < ((2 : Nat) : Int) by decide) ?_ | refine call_gr ct (.one takeG) ?_ | refine call_gr (A := _ :: _) h'' (.blk takeC (.grp takeG (.grp takeG (.one takeE)))) ?_ | refine app_of ?_ | refine need (by first | rfl | omega) ?_)
           all_goals (conv => whnf)
           all_goals exact fin_g (A := A') (.one takeE) ⟨rfl, rfl⟩
     · cases ha : (comes arm).2 with
       | true =>
         subst hq
         have ek : tk ⟨q0, q1, reg, false, calls, later, arm, fault, 1, ti, ts, htd⟩ = ⟨q0, (tamperD q1 ti ts), reg, false, (IntKind.i64.wrap (calls + 1)), (comes later).1, (comes arm).1, (comes fault).1, 1, ti, ts, htd⟩ := by
          unfold tk tk1 tk0; rw [if_pos hl]; rfl
         have c1 := comes_later ⟨rn, a0, a1⟩ ⟨q0, q1, reg, false, (IntKind.i64.wrap (calls + 1)), later, arm, fault, 1, ti, ts, htd⟩
         have c2 := comes_fault ⟨rn, a0, a1⟩ ⟨q0, (tamperD q1 ti ts), reg, false, (IntKind.i64.wrap (calls + 1)), (comes later).1, arm, fault, 1, ti, ts, htd⟩
         have c3 := comes_arm ⟨rn, a0, a1⟩ ⟨q0, (tamperD q1 ti ts), reg, false, (IntKind.i64.wrap (calls + 1)), (comes later).1, arm, (comes fault).1, 1, ti, ts, htd⟩
         obtain ⟨te, ct⟩ := dtamper a1 q1 ti ts
         have ht : tick ⟨q0, q1, reg, false, calls, later, arm, fault, 1, ti, ts, htd⟩ = ({ tk ⟨q0, q1, reg, false, calls, later, arm, fault, 1, ti, ts, htd⟩ with down := true }, some 11) := by
          unfold tick; rw [if_neg (by simp), if_pos ha]
         rw [ht, ek]
         simp only [hl, ha] at c1 c2 c3
         refine fn_intro Tryz.func156 (by kernel_rfl) ?_
         repeat' ((conv => whnf); first
          | refine ld1_row rfl ?_ | refine st_calls (a := ⟨rn, a0, a1⟩) ?_ | refine st_down (a := ⟨rn, a0, a1⟩) ?_ | (refine wr (fun y hy => ?_); subst hy) | refine call_gr c1 (.blk takeC .nil) ?_ | refine call_gr c2 (.blk takeC .nil) ?_ | refine call_gr c3 (.blk takeC .nil) ?_ | refine draw_any 5 [(0, true), (1, true), (2, true), (3, true), (4, true), (6, true), (7, true), (10, true), (11, true), (12, true), (13, true), (15, true), (16, true), (17, true), (18, true), (5, true), (8, true), (9, true), (14, true), (19, false), (20, false)] [⟨rn, _⟩] rfl (by kernel_rfl) (kept1 ?_) | refine kept1 (n := rn) ?_ | refine fld1_row (n := rn) rfl ?_ | refine nv_eq (a := 1) rfl ?_ | refine need (show (0 : Int) ≤ 1 ∧ (1 : Int) < ((2 : Nat) : Int) by decide) ?_ | refine call_gr ct (.one takeG) ?_ | refine need (by first | rfl | omega) ?_)
         all_goals (conv => whnf)
         all_goals exact fin_g (A := rB ⟨rn, a0, a1⟩ _ :: (devM a0 _ ++ (devM a1 _ ++ A))) (.blk takeC (.grp takeG (.grp takeG (.one takeE)))) ⟨rfl, rfl⟩
       | false =>
         cases hf : (comes fault).2 with
         | true =>
           subst hq
           have ek : tk ⟨q0, q1, reg, false, calls, later, arm, fault, 1, ti, ts, htd⟩ = ⟨q0, (tamperD q1 ti ts), reg, false, (IntKind.i64.wrap (calls + 1)), (comes later).1, (comes arm).1, (comes fault).1, 1, ti, ts, htd⟩ := by
            unfold tk tk1 tk0; rw [if_pos hl]; rfl
           have c1 := comes_later ⟨rn, a0, a1⟩ ⟨q0, q1, reg, false, (IntKind.i64.wrap (calls + 1)), later, arm, fault, 1, ti, ts, htd⟩
           have c2 := comes_fault ⟨rn, a0, a1⟩ ⟨q0, (tamperD q1 ti ts), reg, false, (IntKind.i64.wrap (calls + 1)), (comes later).1, arm, fault, 1, ti, ts, htd⟩
           have c3 := comes_arm ⟨rn, a0, a1⟩ ⟨q0, (tamperD q1 ti ts), reg, false, (IntKind.i64.wrap (calls + 1)), (comes later).1, arm, (comes fault).1, 1, ti, ts, htd⟩
           obtain ⟨te, ct⟩ := dtamper a1 q1 ti ts
           have ht : tick ⟨q0, q1, reg, false, calls, later, arm, fault, 1, ti, ts, htd⟩ = (tk ⟨q0, q1, reg, false, calls, later, arm, fault, 1, ti, ts, htd⟩, some 10) := by
            unfold tick; rw [if_neg (by simp), if_neg (by simp [ha]), if_pos hf]
           rw [ht, ek]
           simp only [hl, ha, hf] at c1 c2 c3
           refine fn_intro Tryz.func156 (by kernel_rfl) ?_
           repeat' ((conv => whnf); first
            | refine ld1_row rfl ?_ | refine st_calls (a := ⟨rn, a0, a1⟩) ?_ | (refine wr (fun y hy => ?_); subst hy) | refine call_gr c1 (.blk takeC .nil) ?_ | refine call_gr c2 (.blk takeC .nil) ?_ | refine call_gr c3 (.blk takeC .nil) ?_ | refine draw_any 5 [(0, true), (1, true), (2, true), (3, true), (4, true), (6, true), (7, true), (10, true), (11, true), (12, true), (13, true), (15, true), (16, true), (17, true), (18, true), (5, true), (8, true), (9, true), (14, true), (19, false), (20, false)] [⟨rn, _⟩] rfl (by kernel_rfl) (kept1 ?_) | refine kept1 (n := rn) ?_ | refine fld1_row (n := rn) rfl ?_ | refine nv_eq (a := 1) rfl ?_ | refine need (show (0 : Int) ≤ 1 ∧ (1 : Int) < ((2 : Nat) : Int) by decide) ?_ | refine call_gr ct (.one takeG) ?_ | refine need (by first | rfl | omega) ?_)
           all_goals (conv => whnf)
           all_goals exact fin_g (A := rB ⟨rn, a0, a1⟩ _ :: (devM a0 _ ++ (devM a1 _ ++ A))) (.blk takeC (.grp takeG (.grp takeG (.one takeE)))) ⟨rfl, rfl⟩
         | false =>
           subst hq
           have ek : tk ⟨q0, q1, reg, false, calls, later, arm, fault, 1, ti, ts, htd⟩ = ⟨q0, (tamperD q1 ti ts), reg, false, (IntKind.i64.wrap (calls + 1)), (comes later).1, (comes arm).1, (comes fault).1, 1, ti, ts, htd⟩ := by
            unfold tk tk1 tk0; rw [if_pos hl]; rfl
           have c1 := comes_later ⟨rn, a0, a1⟩ ⟨q0, q1, reg, false, (IntKind.i64.wrap (calls + 1)), later, arm, fault, 1, ti, ts, htd⟩
           have c2 := comes_fault ⟨rn, a0, a1⟩ ⟨q0, (tamperD q1 ti ts), reg, false, (IntKind.i64.wrap (calls + 1)), (comes later).1, arm, fault, 1, ti, ts, htd⟩
           have c3 := comes_arm ⟨rn, a0, a1⟩ ⟨q0, (tamperD q1 ti ts), reg, false, (IntKind.i64.wrap (calls + 1)), (comes later).1, arm, (comes fault).1, 1, ti, ts, htd⟩
           obtain ⟨te, ct⟩ := dtamper a1 q1 ti ts
           have ht : tick ⟨q0, q1, reg, false, calls, later, arm, fault, 1, ti, ts, htd⟩ = (tk ⟨q0, q1, reg, false, calls, later, arm, fault, 1, ti, ts, htd⟩, none) := by
            unfold tick; rw [if_neg (by simp), if_neg (by simp [ha]), if_neg (by simp [hf])]
           have h' := h (by rw [ht])
           rw [ht, ek] at h'
           rw [ht]
           have h'' := h'
           rw [← List.append_nil fs] at h''
           simp only [hl, ha, hf] at c1 c2 c3
           refine fn_intro Tryz.func156 (by kernel_rfl) ?_
           repeat' ((conv => whnf); first
            | refine ld1_row rfl ?_ | refine st_calls (a := ⟨rn, a0, a1⟩) ?_ | (refine wr (fun y hy => ?_); subst hy) | refine call_gr c1 (.blk takeC .nil) ?_ | refine call_gr c2 (.blk takeC .nil) ?_ | refine call_gr c3 (.blk takeC .nil) ?_ | refine draw_any 5 [(0, true), (1, true), (2, true), (3, true), (4, true), (6, true), (7, true), (10, true), (11, true), (12, true), (13, true), (15, true), (16, true), (17, true), (18, true), (5, true), (8, true), (9, true), (14, true), (19, false), (20, false)] [⟨rn, _⟩] rfl (by kernel_rfl) (kept1 ?_) | refine kept1 (n := rn) ?_ | refine fld1_row (n := rn) rfl ?_ | refine nv_eq (a := 1) rfl ?_ | refine need (show (0 : Int) ≤ 1 ∧ (1 : Int) < ((2 : Nat) : Int) by decide) ?_ | refine call_gr ct (.one takeG) ?_ | refine call_gr (A := _ :: _) h'' (.blk takeC (.grp takeG (.grp takeG (.one takeE)))) ?_ | refine app_of ?_ | refine need (by first | rfl | omega) ?_)
           all_goals (conv => whnf)
           all_goals exact fin_g (A := A') (.one takeE) ⟨rfl, rfl⟩
end Rig
end Go.Proofs.YtkjamonkohpcnaaGreat
