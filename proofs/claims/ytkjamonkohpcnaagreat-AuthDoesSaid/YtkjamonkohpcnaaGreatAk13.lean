/- Texts of this proof, merged. -/
import Derived.Test.YtkjamonkohpcnaaGreatAk12
import Derived.Test.YtkjamonkohpcnaaGreatAk6
import Derived.Test.YtkjamonkohpcnaaGreatAk4
import Derived.Test.YtkjamonkohpcnaaGreatAk10
import Derived.Test.YtkjamonkohpcnaaGreatAk5
import Derived.Test.YtkjamonkohpcnaaGreatProg
import Derived.WalkKit
import Derived.Defers
import Derived.Recover
set_option linter.unusedVariables false
set_option linter.unusedSimpArgs false
set_option linter.unusedSectionVars false
set_option maxRecDepth 100000
set_option maxHeartbeats 16000000
namespace Go.Proofs.YtkjamonkohpcnaaGreat
namespace Chn
open Go Ev Sha Aes Orc Node
def catL (l : List ByteArray) : List UInt8 := (l.map (·.data.toList)).flatten
theorem catL_nil : catL [] = [] := rfl
theorem catL_app (l : List ByteArray) (s : ByteArray) : catL (l ++ [s]) = catL l ++ s.data.toList := by unfold catL; simp
theorem catL_len {l : List ByteArray} (h : ∀ s ∈ l, s.size = 64) : (catL l).length = 64 * l.length := by
 induction l with
 | nil => rfl
 | cons s t ih =>
   have e : catL (s :: t) = s.data.toList ++ catL t := rfl
   rw [e, List.length_append, ih fun x hx => h x (List.mem_cons_of_mem _ hx)]
   have : s.data.toList.length = 64 := h s List.mem_cons_self
   simp only [List.length_cons]; omega
def headL (a : Dg) : List UInt8 := [110, 101, 120, 116] ++ dl a
def nextSs (a : Dg) (l : List ByteArray) : ByteArray := str (headL a ++ catL l)
theorem nextSs_1 (a : Dg) (s : ByteArray) : nextSs a [s] = nextS a s := by
 unfold nextSs headL nextS nextL catL
 simp
theorem nextSs_size (a : Dg) {l : List ByteArray} (h : ∀ s ∈ l, s.size = 64) : (nextSs a l).size = 36 + 64 * l.length := by
 unfold nextSs headL
 rw [Ev.str_size, List.length_append, catL_len h, List.length_append, dl_len]; rfl
def strV (l : List ByteArray) : List Value := l.map fun s => .string s
theorem strV_len (l : List ByteArray) : (strV l).length = l.length := by unfold strV; simp
theorem strV_get {cs : List Value} {off : Nat} {l : List ByteArray} (h : (cs.drop off).take l.length = strV l) {k : Nat} (hk : k < l.length) : cs[off + k]? = some (.string l[k]) := by
 have h1 : ((cs.drop off).take l.length)[k]? = some (.string l[k]) := by rw [h]; unfold strV; rw [List.getElem?_map, List.getElem?_eq_getElem hk]; rfl
 rw [List.getElem?_take, if_pos hk, List.getElem?_drop] at h1
 exact h1
attribute [local irreducible] dgV D convert Builtin.copy_ Builtin.append_ headL catL
theorem naddk (bn k : Nat) (S : Own) (l : List UInt8) (s : ByteArray) (hs : s.size = 64) (hok : S.ok 1 k (u8s l)) (hk : k ≤ 100000) :
 Fnc Tryz.prog 246 [.string s, pt bn] (⟨bn, .cells [S.val k] 142⟩ :: S.blk 5 (u8s l))
  (fun e A => ∃ S' : Own, S'.ok 1 (k + 64) (u8s (l ++ s.data.toList)) ∧ e = .returned (.bool true) ∧ A = ⟨bn, .cells [S'.val (k + 64)] 142⟩ :: S'.blk 5 (u8s (l ++ s.data.toList))) := by
 have e100 : k + s.size = k + 64 := by omega
 refine fn_intro Tryz.func246 (by kernel_rfl) ?_
 repeat' ((conv => whnf); first
  | (refine app_str rfl rfl rfl rfl rfl rfl hok (by omega) (fun S' hS' => ?_); rw [e100, ← u8s_append] at hS'; rw [e100, ← u8s_append]) | refine ld1_lit ?_ | refine st_lit rfl ?_ | refine need (by first | rfl | omega) ?_ | (refine ifs (fun h => ?_) (fun h => ?_) <;> try (exfalso; first | omega | with_reducible first | contradiction | exact h rfl)))
 all_goals (conv => whnf)
 all_goals exact fin_all ⟨S', hS', rfl, rfl⟩
theorem nexts (o : Orc) (a : Dg) (bk off c : Nat) (cs : List Value) (T : TypeId) (l : List ByteArray) (hcs : (cs.drop off).take l.length = strV l) (hl : 1 ≤ l.length ∧ l.length ≤ 80) (hs : ∀ s ∈ l, s.size = 64) (hb : o.ts.length ≤ 1099511627776) :
 Fnc Tryz.prog 219 [pt o.on, .agg (dgV a).toArray, .slice (some ⟨bk, off, none⟩) l.length c] (⟨bk, .row cs T⟩ :: orcM o)
  (RetO o (addT o.ts (nextSs a l)) (fun o' => ⟨bk, .row cs T⟩ :: orcM o') (.tuple #[.agg (dgV (D (nextSs a l))).toArray, .int .i64 0])) := by
 have hsum := csum o (nextSs a l) (by rw [nextSs_size a hs]; omega) hb
 refine fn_intro Tryz.func219 (by kernel_rfl) ?_
 repeat' ((conv => whnf); first
  | refine force_of ?_ | refine nw_dg (fun na => ?_) | refine nw_z (fun nz => ?_) | refine nw_row (cs' := u8s [110, 101, 120, 116] ++ []) rfl (fun nt => ?_) | refine nv_eq (a := 0) rfl ?_ | refine nv_eq (a := 32) rfl ?_ | refine conv_mark rfl rfl ?_ | (refine app_fresh (xs := u8s [110, 101, 120, 116] ++ []) (n := 4) (m := 32) (news := dgV a) rfl rfl rfl rfl rfl rfl (dgV_len _) (by decide) (by decide) (by decide) (by decide) (cells_row (dgV_all a)) (fun S' hS' => ?_); rw [show u8s [110, 101, 120, 116] ++ [] ++ dgV a = u8s (headL a) by unfold headL; rw [u8s_append, dgV_u8, List.append_nil]] at hS' ⊢) | refine nw (fun bn => ?_) | refine bld ?_ | refine st_lit rfl ?_ | refine need (by first | rfl | omega) ?_ | (refine ifs (fun h => ?_) (fun h => ?_) <;> try (exfalso; first | omega | with_reducible first | contradiction | exact h rfl)))
 all_goals (conv => whnf)
 refine loop_rule [28] (fun vs M m => ∃ (k : Nat) (S2 : Own), vs = [.int .i64 k] ∧ k ≤ l.length ∧ m = l.length - k ∧ S2.ok 1 (36 + 64 * k) (u8s (headL a ++ catL (l.take k))) ∧
  M = ⟨bn, .cells [S2.val (36 + 64 * k)] 142⟩ :: (S2.blk 5 (u8s (headL a ++ catL (l.take k))) ++ (⟨nz, .row (dgV zD) 30⟩ :: ⟨bk, .row cs T⟩ :: orcM o))) rfl ?_ ?_
 · exact fin_g (A := ⟨bn, _⟩ :: (S'.blk _ _ ++ (⟨nz, _⟩ :: ⟨bk, _⟩ :: orcM o))) (.blk takeC (.grp takeE (.blk takeC (.blk takeC (.one takeG))))) ⟨_, 0, S', rfl, by omega, rfl, by rw [List.take_zero, catL_nil, List.append_nil]; exact hS', by rw [List.take_zero, catL_nil, List.append_nil]⟩
 rintro vs junk M' m ⟨k, S2, rfl, hk, rfl, hS2, rfl⟩
 by_cases hk6 : k < l.length
 · have hg := strV_get hcs hk6
   have hadd := naddk bn (36 + 64 * k) S2 _ l[k] (hs _ (List.getElem_mem hk6)) hS2 (by omega)
   have et : l.take (k + 1) = l.take k ++ [l[k]] := by rw [List.take_add_one, List.getElem?_eq_getElem hk6]; rfl
   rw [List.append_assoc, ← catL_app, ← et, show 36 + 64 * k + 64 = 36 + 64 * (k + 1) by omega] at hadd
   repeat' ((conv => whnf); first
    | (refine nv (fun z hz => ?_); (try simp at hz); replace hz := hz.symm; subst hz) | refine need (by omega) ?_ | refine ld1_row hg ?_ | (refine call_g hadd (.blk takeC (.one takeE)) (fun e A' hq => ?_); obtain ⟨S3, hS3, h1, h2⟩ := hq; subst h1; subst h2) | (refine wr (fun z hz => ?_); (try rw [Int.tdiv_eq_ediv_of_nonneg (by omega)] at hz); rw [w64 (by omega) (by omega)] at hz; subst hz) | (refine ifs (fun h => ?_) (fun h => ?_) <;> try (exfalso; first | omega | with_reducible first | contradiction | exact h rfl)))
   all_goals (conv => whnf)
   all_goals exact ⟨rfl, fin_g (A := ⟨bn, _⟩ :: (S3.blk _ _ ++ (⟨nz, _⟩ :: ⟨bk, _⟩ :: orcM o))) (.blk takeC (.grp takeE (.blk takeC (.blk takeC (.one takeG))))) ⟨l.length - (k + 1), by omega, k + 1, S3, rfl, by omega, rfl, hS3, rfl⟩⟩
 obtain rfl : k = l.length := by omega
 rw [List.take_length] at hS2 ⊢
 repeat' ((conv => whnf); first
  | (refine b2s_own (t := 5) hS2 rfl rfl rfl ?_; rw [show str (headL a ++ catL l) = nextSs a l from rfl]) | (refine call_go hsum (.one takeG) (fun o' h1 h2 => ?_)) | refine force_of ?_ | refine need (dgV_len _) ?_ | refine st_dg ?_ | refine ldN_dg rfl ?_ | refine ld1_lit ?_ | (refine ifs (fun h => ?_) (fun h => ?_) <;> try (exfalso; first | omega | with_reducible first | contradiction | exact h rfl)))
 all_goals (conv => whnf)
 all_goals exact fin_g (A := ⟨bk, _⟩ :: orcM o') (.blk takeC (.one takeG)) ⟨o', h1, h2, rfl, rfl⟩
end Chn
namespace Be
open Go Ev
theorem step_pow (n i : Nat) : n % 256 ^ (i + 1) = n % 256 ^ i + 256 ^ i * (n / 256 ^ i % 256) := Nat.mod_pow_succ
theorem fold_bb : ∀ (i n acc : Nat), (bb i n).foldl (fun n (b : UInt8) => n * 256 + b.toNat) acc = acc * 256 ^ i + n % 256 ^ i
 | 0, n, acc => by simp [bb, Nat.mod_one]
 | i + 1, n, acc => by
   simp only [bb, List.foldl_cons]
   rw [fold_bb i n, step_pow, UInt8.toNat_ofNat', Nat.mod_eq_of_lt (Nat.mod_lt _ (by omega)), Nat.pow_succ, Nat.add_mul, Nat.mul_assoc, Nat.mul_comm 256, Nat.mul_comm (n / 256 ^ i % 256)]
   omega
theorem bval_bb (i n : Nat) : bval (bb i n) = n % 256 ^ i := by
 have := fold_bb i n 0
 simpa [bval] using this
theorem put_room {a k : Int} (ha : a ≤ 9223372036854775807) (h : putE a k = 0) : 1 ≤ k ∧ k ≤ 8 ∧ 0 ≤ a ∧ a.toNat < 256 ^ k.toNat := by
 unfold putE at h
 by_cases h1 : k < 1 ∨ 8 < k
 · rw [if_pos h1] at h; cases h
 · rw [if_neg h1] at h
   by_cases h2 : a < 0 ∨ (k < 8 ∧ (256 ^ k.toNat : Int) ≤ a)
   · rw [if_pos h2] at h; cases h
   · refine ⟨by omega, by omega, by omega, ?_⟩
     by_cases h8 : k = 8
     · subst h8
       show a.toNat < 18446744073709551616
       omega
     · have h3 : ¬ (256 ^ k.toNat : Int) ≤ a := by omega
       have e : ((256 ^ k.toNat : Nat) : Int) = (256 ^ k.toNat : Int) := Int.natCast_pow 256 _
       omega
theorem putS_size {a k : Int} (h : putE a k = 0) : ((putS a k).size : Int) = k := by
 have hk : 1 ≤ k := by
  unfold putE at h
  by_cases h1 : k < 1 ∨ 8 < k
  · rw [if_pos h1] at h; cases h
  · omega
 rw [putS_ok h]; simp; omega
theorem putS_get {a k : Int} (ha : a ≤ 9223372036854775807) (h : putE a k = 0) : getE (putS a k) = 0 ∧ getN (putS a k) = a := by
 obtain ⟨k1, k8, a0, al⟩ := put_room ha h
 have hs := putS_size h
 have e : getE (putS a k) = 0 := by
  unfold getE
  rw [if_neg (by omega), if_neg (by omega), if_neg]
  rintro ⟨h8, hb⟩
  obtain rfl : k = 8 := by omega
  have hb' : byteAt (putS a 8) 0 = ((a.toNat / 256 ^ 7 % 256 : Nat) : Int) := by
   rw [putS_ok h]
   show (((UInt8.ofNat (a.toNat / 256 ^ 7 % 256)).toNat : Nat) : Int) = _
   rw [UInt8.toNat_ofNat']
   omega
  rw [hb'] at hb
  have : a.toNat / 256 ^ 7 ≤ 127 := by
   rw [show (256 ^ 7 : Nat) = 72057594037927936 from rfl]
   omega
  omega
 refine ⟨e, ?_⟩
 unfold getN
 rw [if_pos e, putS_ok h, str_data, bval_bb, Nat.mod_eq_of_lt al]
 omega
end Be
namespace Be
open Go Ev
def fe (w : Int) : List Int → Int
 | [] => 0
 | x :: l => if putE x w = 0 then fe w l else putE x w
def cat (w : Int) (l : List Int) : List UInt8 := l.flatMap fun x => (putS x w).data.toList
theorem cat_snoc (w : Int) (l : List Int) (x : Int) : cat w (l ++ [x]) = cat w l ++ (putS x w).data.toList := by simp [cat]
theorem fe_take {w : Int} : ∀ {l : List Int} {i : Nat} {x : Int}, l[i]? = some x → fe w (l.take i) = 0 → fe w (l.take (i + 1)) = putE x w
 | [], i, x, h, _ => by simp at h
 | y :: l, 0, x, h, _ => by
   simp at h; subst h
   simp only [List.take_succ_cons, List.take_zero, fe]
   split <;> simp_all
 | y :: l, i + 1, x, h, h0 => by
   simp only [List.take_succ_cons, fe] at h0 ⊢
   by_cases hy : putE y w = 0
   · rw [if_pos hy] at h0 ⊢
     exact fe_take (by simpa using h) h0
   · rw [if_neg hy] at h0; exact absurd h0 hy
theorem fe_stop {w : Int} : ∀ {l : List Int} {i : Nat}, fe w (l.take i) ≠ 0 → fe w l = fe w (l.take i)
 | [], i, h => by simp
 | y :: l, 0, h => by simp [fe] at h
 | y :: l, i + 1, h => by
   simp only [List.take_succ_cons, fe] at h ⊢
   by_cases hy : putE y w = 0
   · rw [if_pos hy] at h ⊢; rw [if_pos hy]; exact fe_stop h
   · rw [if_neg hy] at h ⊢; rw [if_neg hy]
def rowE (w : Int) (l : List Int) : Int := if 512 < l.length then 4 else if w < 1 ∨ 8 < w then 2 else fe w l
def rowS (w : Int) (l : List Int) : ByteArray := if rowE w l = 0 then str (cat w l) else str []
theorem putS_le {x w : Int} : (putS x w).size ≤ 8 := by
 by_cases h : putE x w = 0
 · have := putS_size h
   unfold putE at h
   by_cases h1 : w < 1 ∨ 8 < w
   · rw [if_pos h1] at h; cases h
   · omega
 · rw [putS_no h]; simp
theorem cat_le (w : Int) : ∀ l : List Int, (cat w l).length ≤ 8 * l.length
 | [] => by simp [cat]
 | x :: l => by
   have := cat_le w l
   have h := putS_le (x := x) (w := w)
   have h' : (putS x w).data.toList.length = (putS x w).size := rfl
   simp only [cat, List.flatMap_cons, List.length_append, List.length_cons] at this ⊢
   omega
end Be
namespace Be
open Go Ev
def part (p : Int × Bool) : List Value := [.int .i64 p.1, .bool p.2]
def parts (l : List (Int × Bool)) : List Value := (l.map part).flatten
theorem by_cases' (s : ByteArray) (a n : Int) : (n < 0 ∧ byE s a n = 2 ∧ byS s a n = { data := #[] } ∧ byA s a n = a) ∨ (¬ n < 0 ∧ s.size - a < n ∧ byE s a n = 5 ∧ byS s a n = { data := #[] } ∧ byA s a n = a) ∨
 (¬ n < 0 ∧ ¬ s.size - a < n ∧ byE s a n = 0 ∧ byS s a n = s.extract a.toNat (a + n).toNat ∧ byA s a n = a + n) := by
 by_cases h : n < 0
 · exact .inl ⟨h, if_pos h, if_pos (.inl h), if_pos (.inl h)⟩
 · by_cases h' : s.size - a < n
   · exact .inr (.inl ⟨h, h', by rw [byE, if_neg h, if_pos h'], if_pos (.inr h'), if_pos (.inr h')⟩)
   · exact .inr (.inr ⟨h, h', by rw [byE, if_neg h, if_neg h'], if_neg (by omega), if_neg (by omega)⟩)
theorem nu_cases (s : ByteArray) (a n : Int) : ((n < 1 ∨ 8 < n) ∧ nuE s a n = 2 ∧ nuN s a n = 0 ∧ nuA s a n = a) ∨ (¬ (n < 1 ∨ 8 < n) ∧ s.size - a < n ∧ nuE s a n = 5 ∧ nuN s a n = 0 ∧ nuA s a n = a) ∨
 (¬ (n < 1 ∨ 8 < n) ∧ ¬ s.size - a < n ∧ getE (s.extract a.toNat (a + n).toNat) = 0 ∧ nuE s a n = 0 ∧ nuN s a n = getN (s.extract a.toNat (a + n).toNat) ∧ nuA s a n = a + n) ∨
 (¬ (n < 1 ∨ 8 < n) ∧ ¬ s.size - a < n ∧ ¬ getE (s.extract a.toNat (a + n).toNat) = 0 ∧ nuE s a n = getE (s.extract a.toNat (a + n).toNat) ∧ nuN s a n = getN (s.extract a.toNat (a + n).toNat) ∧ nuA s a n = a) := by
 by_cases h : n < 1 ∨ 8 < n
 · exact .inl ⟨h, if_pos h, if_pos h, if_pos h⟩
 · rcases by_cases' s a n with ⟨h1, _⟩ | ⟨_, h2, e1, e2, e3⟩ | ⟨_, h2, e1, e2, e3⟩
   · omega
   · exact .inr (.inl ⟨h, h2, by rw [nuE, if_neg h, e1]; rfl, by rw [nuN, if_neg h, e1]; rfl, by rw [nuA, if_neg h, e1, e3]; rfl⟩)
   · by_cases hg : getE (s.extract a.toNat (a + n).toNat) = 0
     · exact .inr (.inr (.inl ⟨h, h2, hg, by rw [nuE, if_neg h, if_pos e1, e2, hg], by rw [nuN, if_neg h, if_pos e1, e2], by rw [nuA, if_neg h, e2, if_neg (by intro hc; exact hc.2 hg), e3]⟩))
     · exact .inr (.inr (.inr ⟨h, h2, hg, by rw [nuE, if_neg h, if_pos e1, e2], by rw [nuN, if_neg h, if_pos e1, e2], by rw [nuA, if_neg h, e2, if_pos ⟨e1, hg⟩]⟩))
attribute [local irreducible] getN getE byS byE byA nuN nuE nuA parts
end Be
namespace Geom
open Go Ev Be
theorem bb_bval : ∀ (l : List UInt8), bb l.length (bval l) = l := by
 intro l
 have key : ∀ (l : List UInt8) (a : Nat), bb l.length (l.foldl (fun n (b : UInt8) => n * 256 + b.toNat) a) = l := by
  intro l
  induction l with
  | nil => intro a; rfl
  | cons b t ih =>
    intro a
    have e : ∀ (t : List UInt8) (c : Nat), t.foldl (fun n (b : UInt8) => n * 256 + b.toNat) c / 256 ^ t.length = c := by
     intro t
     induction t with
     | nil => intro c; simp
     | cons x t ih2 =>
       intro c
       rw [List.foldl_cons, List.length_cons, Nat.pow_succ, ← Nat.div_div_eq_div_mul, ih2]
       have := x.toNat_lt
       omega
    rw [List.length_cons, List.foldl_cons]
    unfold bb
    rw [ih, e]
    have : (a * 256 + b.toNat) % 256 = b.toNat := by have := b.toNat_lt; omega
    rw [this]
    simp
 exact key l 0
theorem str_size (l : List UInt8) : (str l).size = l.length := by simp [str, ByteArray.size]
theorem ext_str (l : List UInt8) (i j : Nat) : (str l).extract i j = str ((l.take j).drop i) := by
 apply ByteArray.ext
 simp [str, ByteArray.data_extract, List.extract_eq_take_drop, List.drop_take]
def headL (b s m : Int) : List UInt8 := [99, 108, 114, 116] ++ bb 2 b.toNat ++ bb 2 s.toNat ++ bb 8 m.toNat ++ List.replicate 16 0
def supS (b s m : Int) (c : ByteArray) : ByteArray := str (headL b s m) ++ c
theorem headL_length (b s m : Int) : (headL b s m).length = 32 := rfl
def gB (s : ByteArray) : Int := getN (s.extract 4 6)
def gS (s : ByteArray) : Int := getN (s.extract 6 8)
def gM (s : ByteArray) : Int := getN (s.extract 8 16)
def readOk (s : ByteArray) : Prop := s.size = 64 ∧ Right (gB s) (gS s) (gM s) ∧ supS (gB s) (gS s) (gM s) (s.extract 32 64) = s
instance (s : ByteArray) : Decidable (readOk s) := by unfold readOk; infer_instance
def refOk (s : ByteArray) : Prop := s.size = 64 ∧ s.extract 0 4 = { data := #[99, 108, 114, 116] } ∧ s.extract 16 32 = str (List.replicate 16 0) ∧ getE (s.extract 8 16) = 0 ∧ Right (gB s) (gS s) (gM s)
theorem putE2 {n : Int} (h0 : 0 ≤ n) (h1 : n ≤ 65535) : putE n 2 = 0 := by
 refine putE_ok (by omega) ?_
 have : ((256 : Int) ^ (2 : Int).toNat) = 65536 := rfl
 rw [this]; omega
theorem putE8 {n : Int} (h0 : 0 ≤ n) : putE n 8 = 0 := putE_ok (by omega) (by omega)
theorem right_b {b s m : Int} (h : Right b s m) : putE b 2 = 0 := putE2 (by have := h.1; omega) (by have := h.2.1; omega)
theorem right_s {b s m : Int} (h : Right b s m) : putE s 2 = 0 := putE2 (by have := h.2.2.2.1; omega) (by have := h.2.2.2.2.1; omega)
theorem right_m {b s m : Int} (h : Right b s m) : putE m 8 = 0 := putE8 (by have := h.2.2.2.2.2.1; omega)
theorem row_head {b s m : Int} (h : Right b s m) : rowE 2 [b, s] = 0 ∧ rowS 2 [b, s] = putS b 2 ++ putS s 2 := by
 have e : rowE 2 [b, s] = 0 := by
  unfold rowE
  rw [if_neg (by simp), if_neg (by omega)]
  simp [fe, right_b h, right_s h]
 refine ⟨e, ?_⟩
 unfold rowS
 rw [if_pos e]
 simp only [cat, List.flatMap_cons, List.flatMap_nil, List.append_nil]
 rw [← str_append, str_eta, str_eta]
theorem head_pad {b s m : Int} (h : Right b s m) : padE (({ data := #[99, 108, 114, 116] } : ByteArray) ++ (putS b 2 ++ putS s 2) ++ putS m 8) 32 = 0 ∧
 padS (({ data := #[99, 108, 114, 116] } : ByteArray) ++ (putS b 2 ++ putS s 2) ++ putS m 8) 32 = str (headL b s m) := by
 rw [putS_ok (right_b h), putS_ok (right_s h), putS_ok (right_m h)]
 have e : ({ data := #[99, 108, 114, 116] } : ByteArray) = str [99, 108, 114, 116] := rfl
 rw [e]
 simp only [str_append]
 generalize hl : [99, 108, 114, 116] ++ (bb (Int.toNat 2) b.toNat ++ bb (Int.toNat 2) s.toNat) ++ bb (Int.toNat 8) m.toNat = l
 have hlen : l.length = 16 := by rw [← hl]; rfl
 have hE : padE (str l) 32 = 0 := by
  unfold padE
  rw [if_neg (by omega), if_neg (by rw [str_size]; omega)]
 refine ⟨hE, ?_⟩
 unfold padS full
 rw [if_pos hE, if_neg (by rw [str_size]; omega), str_size, hlen, str_append, ← hl]
 rfl
theorem getE2 {s : ByteArray} (h : s.size = 2) : getE s = 0 := by
 unfold getE
 rw [if_neg (by omega), if_neg (by omega), if_neg (by omega)]
theorem getN_val {s : ByteArray} (h : getE s = 0) : getN s = bval s.data.toList := if_pos h
theorem nu_at {s : ByteArray} {a n : Int} (h1 : 1 ≤ n) (h8 : n ≤ 8) (ha : 0 ≤ a) (hs : a + n ≤ s.size) : nuN s a n = getN (s.extract a.toNat (a + n).toNat) ∧ (n < 8 → nuA s a n = a + n) := by
 have hz : (s.extract a.toNat (a + n).toNat).size = n.toNat := by rw [ByteArray.size_extract]; omega
 rcases nu_cases s a n with ⟨q, _⟩ | ⟨q, q2, _⟩ | ⟨q, q2, q3, e1, e2, e3⟩ | ⟨q, q2, q3, e1, e2, e3⟩
 · omega
 · omega
 · exact ⟨e2, fun _ => e3⟩
 · refine ⟨e2, fun h => absurd ?_ q3⟩
   unfold getE
   rw [if_neg (by omega), if_neg (by omega), if_neg (by omega)]
theorem read_nums {s : ByteArray} (h : s.size = 64) : nuN (s.extract 4 64) 0 2 = gB s ∧ nuA (s.extract 4 64) 0 2 = 2 ∧ nuN (s.extract 4 64) 2 2 = gS s ∧ nuA (s.extract 4 64) 2 2 = 4 ∧ nuN (s.extract 4 64) 4 8 = gM s := by
 have hz : (s.extract 4 64).size = 60 := by rw [ByteArray.size_extract]; omega
 have a1 := nu_at (s := s.extract 4 64) (a := 0) (n := 2) (by omega) (by omega) (by omega) (by omega)
 have a2 := nu_at (s := s.extract 4 64) (a := 2) (n := 2) (by omega) (by omega) (by omega) (by omega)
 have a3 := nu_at (s := s.extract 4 64) (a := 4) (n := 8) (by omega) (by omega) (by omega) (by omega)
 refine ⟨?_, a1.2 (by omega), ?_, a2.2 (by omega), ?_⟩
 · rw [a1.1, ByteArray.extract_extract]; rfl
 · rw [a2.1, ByteArray.extract_extract]; rfl
 · rw [a3.1, ByteArray.extract_extract]; rfl
theorem ext_bytes (s : ByteArray) (i j : Nat) : s.extract i j = str ((s.data.toList.take j).drop i) := by
 conv => lhs; rw [← str_eta s]
 exact ext_str _ _ _
theorem bval_ext {s : ByteArray} {i j k : Nat} (hs : s.size = 64) (hj : j ≤ 64) (hk : j - i = k) (hij : i ≤ j) (hE : getE (s.extract i j) = 0) : bb k (getN (s.extract i j)).toNat = (s.data.toList.take j).drop i := by
 rw [getN_val hE, Int.toNat_natCast]
 have hl : (s.extract i j).data.toList.length = k := by
  show (s.extract i j).size = k
  rw [ByteArray.size_extract]; omega
 have := bb_bval (s.extract i j).data.toList
 rw [hl] at this
 rw [this, ext_bytes, str_data]
theorem cut_all {l : List UInt8} : l = l.take 4 ++ ((l.take 6).drop 4) ++ ((l.take 8).drop 6) ++ ((l.take 16).drop 8) ++ ((l.take 32).drop 16) ++ l.drop 32 := by
 have e : ∀ (i j : Nat), i ≤ j → l.take i ++ (l.take j).drop i = l.take j := by
  intro i j h
  have := List.take_append_drop i (l.take j)
  rwa [List.take_take, Nat.min_eq_left h] at this
 rw [e 4 6 (by omega), e 6 8 (by omega), e 8 16 (by omega), e 16 32 (by omega), List.take_append_drop]
theorem read_iff {s : ByteArray} : readOk s ↔ refOk s := by
 constructor
 · rintro ⟨h1, h2, h3⟩
   have hE : getE (s.extract 8 16) = 0 := by
    by_cases h : getE (s.extract 8 16) = 0
    · exact h
    · have : gM s = 0 := if_neg h
      have := h2.2.2.2.2.2.1
      omega
   refine ⟨h1, ?_, ?_, hE, h2⟩
   · conv => lhs; rw [← h3]
     unfold supS
     rw [show (s.extract 32 64) = str (s.extract 32 64).data.toList from (str_eta _).symm, str_append, ext_str]
     rfl
   · conv => lhs; rw [← h3]
     unfold supS
     rw [show (s.extract 32 64) = str (s.extract 32 64).data.toList from (str_eta _).symm, str_append, ext_str]
     rfl
 · rintro ⟨h1, h2, h3, h4, h5⟩
   refine ⟨h1, h5, ?_⟩
   have e1 := bval_ext (k := 2) h1 (show 6 ≤ 64 by omega) (show 6 - 4 = 2 by omega) (by omega) (getE2 (by rw [ByteArray.size_extract]; omega))
   have e2 := bval_ext (k := 2) h1 (show 8 ≤ 64 by omega) (show 8 - 6 = 2 by omega) (by omega) (getE2 (by rw [ByteArray.size_extract]; omega))
   have e3 := bval_ext (k := 8) h1 (show 16 ≤ 64 by omega) (show 16 - 8 = 8 by omega) (by omega) h4
   unfold supS headL gB gS gM
   rw [e1, e2, e3]
   rw [ext_bytes] at h2 h3
   have h2' : s.data.toList.take 4 = [99, 108, 114, 116] := by
    have : str ((s.data.toList.take 4).drop 0) = str [99, 108, 114, 116] := h2
    simpa using str_inj.1 this
   have h3' := str_inj.1 h3
   rw [← h2', ← h3', ext_bytes, str_append]
   have hl : s.data.toList.take 64 = s.data.toList := List.take_of_length_le (by show s.size ≤ 64; omega)
   rw [hl, ← cut_all, str_eta]
theorem sup_back {b s m : Int} {c : ByteArray} (h : Right b s m) (hc : c.size = 32) : readOk (supS b s m c) ∧ gB (supS b s m c) = b ∧ gS (supS b s m c) = s ∧ gM (supS b s m c) = m ∧ (supS b s m c).extract 32 64 = c := by
 have hl : c.data.toList.length = 32 := hc
 have e0 : supS b s m c = str (headL b s m ++ c.data.toList) := by unfold supS; rw [← str_append, str_eta]
 have hm : m ≤ 9223372036854775807 := by have := h.2.2.2.2.2.2; omega
 have eB : gB (supS b s m c) = b := by
  unfold gB
  rw [e0, ext_str]
  have : ((headL b s m ++ c.data.toList).take 6).drop 4 = bb 2 b.toNat := rfl
  rw [this, show str (bb 2 b.toNat) = putS b 2 from (putS_ok (right_b h)).symm]
  exact (putS_get (by have := h.2.1; omega) (right_b h)).2
 have eS : gS (supS b s m c) = s := by
  unfold gS
  rw [e0, ext_str]
  have : ((headL b s m ++ c.data.toList).take 8).drop 6 = bb 2 s.toNat := rfl
  rw [this, show str (bb 2 s.toNat) = putS s 2 from (putS_ok (right_s h)).symm]
  exact (putS_get (by have := h.2.2.2.2.1; omega) (right_s h)).2
 have eM : gM (supS b s m c) = m := by
  unfold gM
  rw [e0, ext_str]
  have : ((headL b s m ++ c.data.toList).take 16).drop 8 = bb 8 m.toNat := rfl
  rw [this, show str (bb 8 m.toNat) = putS m 8 from (putS_ok (right_m h)).symm]
  exact (putS_get hm (right_m h)).2
 have eC : (supS b s m c).extract 32 64 = c := by
  rw [e0, ext_str, List.take_of_length_le (by rw [List.length_append, headL_length]; omega), List.drop_append_of_le_length (by rw [headL_length]; omega), List.drop_of_length_le (by rw [headL_length]; omega), List.nil_append, str_eta]
 refine ⟨⟨?_, by rw [eB, eS, eM]; exact h, by rw [eB, eS, eM, eC]⟩, eB, eS, eM, eC⟩
 rw [e0, str_size, List.length_append, headL_length]; omega
end Geom
namespace Jrn
open Go Ev Sha Aes Orc Node Rec Chn
open Rig (RigP Rg rgM readR writeR flushR setRegR z64 app_of tick comes write_ mayE RigA)
structure Fine (r : RigP) : Prop where
 down : r.down = false
 arm : r.arm = 0
 fault : r.fault = 0
 later : r.later = 0
def ticked (r : RigP) : RigP := { r with calls := IntKind.i64.wrap (r.calls + 1) }
theorem Fine.tick {r : RigP} (h : Fine r) : tick r = (ticked r, none) := by
 obtain ⟨d0, d1, reg, down, calls, later, arm, fault, td, ti, ts, htd⟩ := r
 obtain ⟨h1, h2, h3, h4⟩ := h
 simp only at h1 h2 h3 h4
 subst h1; subst h2; subst h3; subst h4
 simp [Rig.tick, Rig.comes, Rig.tk, Rig.tk1, Rig.tk0, ticked]
theorem Fine.ticked {r : RigP} (h : Fine r) : Fine (ticked r) := ⟨h.down, h.arm, h.fault, h.later⟩
theorem Fine.setDev {r : RigP} (h : Fine r) (d : Int) (x : Rig.DevC) : Fine (r.setDev d x) := by
 unfold Rig.RigP.setDev
 split
 · exact ⟨h.down, h.arm, h.fault, h.later⟩
 · exact ⟨h.down, h.arm, h.fault, h.later⟩
def wrF (r : RigP) (d : Int) (i : Nat) (s : ByteArray) : RigP := (ticked r).setDev d (Rig.writeD ((ticked r).dev d) i s)
theorem mayE_ok {d i : Int} (hd : d = 0 ∨ d = 1) (h0 : 0 ≤ i) (hi : i < 288) : mayE d i = 0 := by
 unfold mayE; rw [if_neg (by omega), if_neg (by omega)]
theorem Fine.write {r : RigP} (h : Fine r) {d : Int} {i : Nat} {s : ByteArray} (hd : d = 0 ∨ d = 1) (hi : i < 288) (hs : s.size = 64) : writeR r d i s = (wrF r d i s, 0) := by
 unfold writeR
 rw [mayE_ok hd (by omega) (by omega), if_neg (by simp), if_neg (by simp [hs]), h.tick]
 rfl
theorem Fine.wrF {r : RigP} (h : Fine r) (d : Int) (i : Nat) (s : ByteArray) : Fine (wrF r d i s) := (h.ticked).setDev _ _
theorem writeF (x : Rg) (d : Int) (i : Nat) (s : ByteArray) (h : Fine x.r) (hd : d = 0 ∨ d = 1) (hi : i < 288) (hs : s.size = 64) :
 Fnc Tryz.prog 92 [pt x.a.rn, .int .i64 d, .int .i64 i, .string s] (rgM x) (Ret (.int .i64 0) (rgM ⟨x.a, wrF x.r d i s⟩)) := by
 have := write_ x d i s
 rw [h.write hd hi hs] at this
 exact this
structure JrP where
 super : ByteArray
 d : Nat
 area : Nat
 used : Nat
 seq : Int
 root : Dg
 anchor : Dg
def jC (rn on : Nat) (x : JrP) : List Value := [pt rn, pt on, .string x.super, .int .i64 x.d, .int .i64 x.area, .int .i64 x.used, .int .i64 x.seq] ++ (dgV x.root ++ (dgV x.anchor ++ []))
def whC (x : JrP) : List Value := [.string x.super, .int .i64 x.d, .int .i64 x.area]
abbrev jB (n rn on : Nat) (x : JrP) : Blk := ⟨n, .row (jC rn on x) 252⟩
section
variable {rn on : Nat} {x : JrP}
theorem jC_len : (jC rn on x).length = 71 := by unfold jC; simp [dgV_len]
theorem jC_0 : (jC rn on x)[0]? = some (pt rn) := rfl
theorem jC_1 : (jC rn on x)[1]? = some (pt on) := rfl
theorem jC_d : (jC rn on x)[3]? = some (.int .i64 x.d) := rfl
theorem jC_a : (jC rn on x)[4]? = some (.int .i64 x.area) := rfl
theorem jC_u : (jC rn on x)[5]? = some (.int .i64 x.used) := rfl
theorem jC_s : (jC rn on x)[6]? = some (.int .i64 x.seq) := rfl
theorem jC_w : ((jC rn on x).drop 2).take (whC x).length = whC x := rfl
theorem jC_r : ((jC rn on x).drop 7).take (dgV x.root).length = dgV x.root := rfl
theorem jC_n : ((jC rn on x).drop 39).take (dgV x.anchor).length = dgV x.anchor := rfl
theorem jC_su {u : Nat} : (jC rn on x).set 5 (.int .i64 u) = jC rn on { x with used := u } := rfl
theorem jC_ss {u : Int} : (jC rn on x).set 6 (.int .i64 u) = jC rn on { x with seq := u } := rfl
theorem jC_sr {b : Dg} : (jC rn on x).take 7 ++ dgV b ++ (jC rn on x).drop (7 + (dgV b).length) = jC rn on { x with root := b } := rfl
theorem jC_sn {b : Dg} : (jC rn on x).take 39 ++ dgV b ++ (jC rn on x).drop (39 + (dgV b).length) = jC rn on { x with anchor := b } := rfl
end
theorem fldN_r {RO : List Blk} {n off m : Nat} {cs : List Value} {t : TypeId} {K : List Value → Prop} [h : Look RO n (.row cs t)] (l : List Value) (hl : (cs.drop off).take l.length = l) (hm : l.length = m) (hk : K l) : FLdN RO n off m K :=
 ⟨⟨l, hm, fun w hw => row_at (hw.1 _ h.mem) hl, hk⟩⟩
section
variable {P : Program} {M : List Blk} {n rn on : Nat} {x : JrP} {T : TypeId} {f : Blk → List Blk} {k : List Blk → Prop} [z : Zip M n (.row (jC rn on x) T) f]
theorem st_ju {u : Nat} (hk : k (f ⟨n, .row (jC rn on { x with used := u }) T⟩)) : StN P M n 5 [.int .i64 u] k := st_row rfl (by rw [jC_len]; omega) (by rw [jC_su]; exact hk)
theorem st_js {u : Int} (hk : k (f ⟨n, .row (jC rn on { x with seq := u }) T⟩)) : StN P M n 6 [.int .i64 u] k := st_row rfl (by rw [jC_len]; omega) (by rw [jC_ss]; exact hk)
theorem st_jr {b : Dg} (hk : k (f ⟨n, .row (jC rn on { x with root := b }) T⟩)) : StN P M n 7 (dgV b) k := st_rowN (dgV_one b) (by rw [jC_len, dgV_len]; omega) (by rw [jC_sr]; exact hk)
theorem st_jn {b : Dg} (hk : k (f ⟨n, .row (jC rn on { x with anchor := b }) T⟩)) : StN P M n 39 (dgV b) k := st_rowN (dgV_one b) (by rw [jC_len, dgV_len]; omega) (by rw [jC_sn]; exact hk)
end
theorem rcC_rt {seq : Int} {root : Dg} : ((rcC seq root).drop 1).take (dgV root).length = dgV root := rfl
theorem jblock (super : ByteArray) (d area i : Nat) (ha : area ≤ 1) (hi : i < 80) : Fnc Tryz.prog 218 [.agg #[.string super, .int .i64 d, .int .i64 area], .int .i64 i] [] (Ret (.int .i64 ((1 + 80 * area + i : Nat) : Int)) []) := by
 have h := Geom.areaAt area i
 rw [if_pos ⟨by omega, by omega, by omega, by omega⟩, show (1 : Int) + 80 * (area : Int) + (i : Int) = ((1 + 80 * area + i : Nat) : Int) by omega] at h
 refine fn_intro Tryz.func218 (by kernel_rfl) ?_
 repeat' ((conv => whnf); first
  | refine call_val h ?_ | refine ld1_lit ?_ | refine nw (fun n => ?_))
 all_goals (conv => whnf)
 all_goals exact fin_nil ⟨rfl, rfl⟩
def jr0 (super : ByteArray) (d area : Nat) (a : Dg) : JrP := ⟨super, d, area, 0, 0, zD, a⟩
def jz (rn on : Nat) (super : ByteArray) (d area : Nat) : List Value := [pt rn, pt on, .string super, .int .i64 d, .int .i64 area, .int .i64 0, .int .i64 0] ++ List.replicate 64 (Value.int .u8 0)
theorem jr0_e (rn on : Nat) (super : ByteArray) (d area : Nat) (a : Dg) : (jz rn on super d area).take 39 ++ dgV a ++ (jz rn on super d area).drop (39 + 32) = jC rn on (jr0 super d area a) := rfl
attribute [local irreducible] dgV D jC wrF rcC
abbrev sB (bk : Nat) (s : ByteArray) : Blk := ⟨bk, .cells [.string s] 9⟩
theorem jwrite (g : Rg) (jn on bk : Nat) (x : JrP) (s : ByteArray) (hf : Fine g.r) (hd : x.d ≤ 1) (ha : x.area ≤ 1) (hu : x.used < 80) (hs : s.size = 64) :
 Fnc Tryz.prog 179 [pt jn, .slice (some ⟨bk, 0, none⟩) 1 1] (rgM g ++ [jB jn g.a.rn on x, sB bk s])
  (Ret (.int .i64 0) (rgM ⟨g.a, wrF g.r x.d (1 + 80 * x.area + x.used) s⟩ ++ [jB jn g.a.rn on x, sB bk s])) := by
 have hb := jblock x.super x.d x.area x.used ha hu
 have hw := writeF g x.d (1 + 80 * x.area + x.used) s hf (by omega) (by omega) hs
 refine fn_intro Tryz.func179 (by kernel_rfl) ?_
 repeat' ((conv => whnf); first
  | refine loop_n 2 ?_ | refine draw_any 5 [(0, true), (1, true), (2, true), (3, true), (4, true), (6, true), (7, true), (8, true), (10, true), (11, true), (12, true), (14, true), (17, true), (5, true), (9, true), (13, false), (15, true), (16, false), (18, false), (19, true)] [⟨jn, _⟩] rfl (by kernel_rfl) (kept_of (.cons takeC .nil) ?_) | refine kept_of (.cons takeC .nil) ?_ | refine fld1_row jC_d ?_ | refine fldN_r _ jC_w rfl ?_ | refine ld1_row jC_0 ?_ | refine ld1_row jC_u ?_ | refine nv_eq (a := 0) rfl ?_ | (refine wr (fun z hz => ?_); rw [show ((x.used : Int) + 0) = (x.used : Int) by omega, w64 (by omega) (by omega)] at hz; subst hz) | refine call_val hb ?_ | refine call_gr hw (.one takeG) ?_ | refine ld1_lit ?_ | refine need (by first | rfl | omega) ?_ | (refine wr (fun z hz => ?_); (try rw [Int.tdiv_eq_ediv_of_nonneg (by omega)] at hz); rw [w64 (by omega) (by omega)] at hz; subst hz) | (refine ifs (fun h => ?_) (fun h => ?_) <;> try (exfalso; first | omega | with_reducible first | contradiction | exact h rfl)))
 all_goals (conv => whnf)
 all_goals exact fin_g (A := rgM _ ++ [jB jn g.a.rn on x, sB bk s]) (.grp takeG (.blk takeC (.blk takeC .nil))) ⟨rfl, rfl⟩
noncomputable def addJ (x : JrP) (seq : Int) (root : Dg) (s : ByteArray) : JrP := { x with anchor := D (nextS x.anchor s), used := x.used + 1, seq := seq, root := root }
theorem jadd (o : Orc) (jn rn bk : Nat) (x : JrP) (seq : Int) (root : Dg) (s : ByteArray) (hs : s.size = 64) (hu : x.used < 1000) (hb : o.ts.length ≤ 1099511627776) :
 Fnc Tryz.prog 180 [pt jn, .agg (rcC seq root).toArray, .slice (some ⟨bk, 0, none⟩) 1 1] (orcM o ++ [jB jn rn o.on x, sB bk s])
  (RetO o (addT o.ts (nextS x.anchor s)) (fun o' => orcM o' ++ [jB jn rn o.on (addJ x seq root s), sB bk s]) (.tuple #[])) := by
 have hn := next_ o x.anchor bk 9 s hs hb
 refine fn_intro Tryz.func180 (by kernel_rfl) ?_
 repeat' ((conv => whnf); first
  | refine force_of ?_ | refine nw_row (cs' := rcC seq root) rfl (fun n => ?_) | refine draw_tree 1 (.take 0 (.take 1 (.take 2 (.take 3 (.take 5 (.take 6 (.take 7 (.take 9 (.two 4 8 (.only 8 (.only 10 (.take 11 (.take 12 (.take 13 (.take 14 (.take 15 (.only 16 .nil)))))))) (.only 4 (.only 10 (.take 11 (.take 12 (.take 13 (.take 14 (.take 15 (.only 16 .nil))))))))))))))))) [] rfl (by kernel_rfl) ?_ | refine And.intro ?_ ?_ | refine kept_nil ?_ | refine ld1_row (n := jn) jC_1 ?_ | refine draw_any 3 [(0, true), (1, true), (2, true), (4, true), (3, true), (6, true), (7, true), (5, true), (8, false), (9, true), (10, true), (11, false)] [⟨n, _⟩] rfl (by kernel_rfl) (kept_of (.cons takeC .nil) ?_) | refine kept_of (.cons takeC .nil) ?_ | refine fld1_row rcC_0 ?_ | refine fldN_r _ rcC_rt (dgV_len _) ?_ | refine ldN_row (n := jn) _ jC_n (dgV_len _) ?_ | refine ld1_row jC_u ?_ | refine call_go hn (.blk takeC (.one takeG)) (fun o' h1 h2 => ?_) | (refine need ?_ ?_; exact dgV_len _) | (refine wr (fun z hz => ?_); replace hz : z = IntKind.i64.wrap ((x.used + 1 : Nat) : Int) := hz; rw [w64 (by omega) (by omega)] at hz; subst hz) | refine st_jn ?_ | refine st_ju ?_ | refine st_js ?_ | refine st_jr ?_ | refine need (by first | rfl | omega) ?_)
 all_goals (conv => whnf)
 all_goals first
  | rfl
  | exact fin_g (A := orcM o' ++ [jB jn rn o.on (addJ x seq root s), sB bk s]) (.grp takeG (.blk takeC (.blk takeC .nil))) ⟨o', h1, h2, rfl, rfl⟩
section
variable (jn rn on : Nat) (x : JrP)
theorem janchor : Fnc Tryz.prog 126 [pt jn] [jB jn rn on x] (Ret (.agg (dgV x.anchor).toArray) [jB jn rn on x]) := by
 refine fn_intro Tryz.func126 (by kernel_rfl) ?_
 repeat' ((conv => whnf); first
  | refine force_of ?_ | refine nw_z (fun n => ?_) | refine ldN_row (n := jn) _ jC_n (dgV_len _) ?_ | (refine need ?_ ?_; exact dgV_len _) | refine st_dg ?_ | refine ldN_dg rfl ?_)
 all_goals (conv => whnf)
 all_goals exact fin_pick (A' := [jB jn rn on x]) (.cons takeC .nil) ⟨rfl, rfl⟩
theorem jroot : Fnc Tryz.prog 148 [pt jn] [jB jn rn on x] (Ret (.agg (dgV x.root).toArray) [jB jn rn on x]) := by
 refine fn_intro Tryz.func148 (by kernel_rfl) ?_
 repeat' ((conv => whnf); first
  | refine force_of ?_ | refine nw_z (fun n => ?_) | refine ldN_row (n := jn) _ jC_r (dgV_len _) ?_ | (refine need ?_ ?_; exact dgV_len _) | refine st_dg ?_ | refine ldN_dg rfl ?_)
 all_goals (conv => whnf)
 all_goals exact fin_pick (A' := [jB jn rn on x]) (.cons takeC .nil) ⟨rfl, rfl⟩
theorem jused : Fnc Tryz.prog 127 [pt jn] [jB jn rn on x] (Ret (.int .i64 x.used) [jB jn rn on x]) := by
 refine fn_intro Tryz.func127 (by kernel_rfl) ?_
 repeat' ((conv => whnf); first
  | refine ld1_row jC_u ?_)
 all_goals (conv => whnf)
 all_goals exact fin_all ⟨rfl, rfl⟩
theorem jarea : Fnc Tryz.prog 177 [pt jn] [jB jn rn on x] (Ret (.int .i64 x.area) [jB jn rn on x]) := by
 refine fn_intro Tryz.func177 (by kernel_rfl) ?_
 repeat' ((conv => whnf); first
  | refine ld1_row jC_a ?_)
 all_goals (conv => whnf)
 all_goals exact fin_all ⟨rfl, rfl⟩
theorem jseq : Fnc Tryz.prog 123 [pt jn] [jB jn rn on x] (Ret (.int .i64 x.seq) [jB jn rn on x]) := by
 refine fn_intro Tryz.func123 (by kernel_rfl) ?_
 repeat' ((conv => whnf); first
  | refine ld1_row jC_s ?_)
 all_goals (conv => whnf)
 all_goals exact fin_all ⟨rfl, rfl⟩
end
theorem jbegin (g : Rg) (o : Orc) (super : ByteArray) (d area : Nat) (seq : Int) (root : Dg) (hf : Fine g.r) (hd : d ≤ 1) (ha : area ≤ 1) (hs : super.size = 64) (hq : seqOk seq) (hb : o.ts.length ≤ 1099511627000) :
 Fnc Tryz.prog 207 [pt g.a.rn, pt o.on, .agg #[.string super, .int .i64 d, .int .i64 area], .agg (rcC seq root).toArray] (rgM g ++ orcM o)
  (fun e A => ∃ (jn : Nat) (o' : Orc), o'.on = o.on ∧ o'.ts = addT (addT o.ts (startS super d area)) (nextS (D (startS super d area)) (recB seq root)) ∧ e = .returned (.tuple #[pt jn, .int .i64 0]) ∧
    A = rgM ⟨g.a, wrF g.r d (1 + 80 * area) (recB seq root)⟩ ++ (orcM o' ++ [jB jn g.a.rn o.on (addJ (jr0 super d area (D (startS super d area))) seq root (recB seq root))])) := by
 have hst := start_ o super d area hd ha hs (by omega)
 have hlay := rlay seq root hq
 have hsz := recB_size hq root
 have hw := fun jn bk => jwrite g jn o.on bk (jr0 super d area (D (startS super d area))) (recB seq root) hf hd ha (by show 0 < 80; omega) hsz
 have ha2 : ∀ (o1 : Orc) (jn bk : Nat), o1.on = o.on → o1.ts = addT o.ts (startS super d area) → Fnc Tryz.prog 180 [pt jn, .agg (rcC seq root).toArray, .slice (some ⟨bk, 0, none⟩) 1 1] (orcM o1 ++ [jB jn g.a.rn o.on (jr0 super d area (D (startS super d area))), sB bk (recB seq root)])
  (RetO o1 (addT (addT o.ts (startS super d area)) (nextS (D (startS super d area)) (recB seq root))) (fun o' => orcM o' ++ [jB jn g.a.rn o.on (addJ (jr0 super d area (D (startS super d area))) seq root (recB seq root)), sB bk (recB seq root)]) (.tuple #[])) := fun o1 jn bk h1 h2 => by
  have hl := addT_len o.ts (startS super d area)
  have := jadd o1 jn g.a.rn bk (jr0 super d area (D (startS super d area))) seq root (recB seq root) hsz (by show 0 < 1000; omega) (by rw [h2]; omega)
  rw [h1, h2] at this
  exact this
 refine fn_intro Tryz.func207 (by kernel_rfl) ?_
 repeat' ((conv => whnf); first
  | refine force_of ?_ | refine nw_row (cs' := rcC seq root) rfl (fun n => ?_) | refine nw_z (fun n => ?_) | refine call_go hst (.one takeG) (fun o1 a1 a2 => ?_) | (refine call_g hlay .nil (fun e A' hq => ?_); obtain ⟨bk, h1, h2⟩ := hq; subst h1; subst h2) | (refine need ?_ ?_; exact dgV_len _) | refine st_dg ?_ | refine ldN_dg rfl ?_ | refine ldN_whole (rcC_len _ _) ?_ | refine ld1_row rcC_p ?_ | (refine bld_cons (vs := [_]) rfl rfl rfl (Nat.le_of_ble_eq_true rfl) rfl ?_; refine bld_cons (vs := [_]) rfl rfl rfl (Nat.le_of_ble_eq_true rfl) rfl ?_; refine bld_cons (vs := [_, _, _]) rfl rfl rfl (Nat.le_of_ble_eq_true rfl) rfl ?_; refine bld_cons (vs := dgV (D (startS super d area))) (cs1 := jC g.a.rn o.on (jr0 super d area (D (startS super d area)))) rfl rfl (dgV_len _) (Nat.le_of_ble_eq_true rfl) (jr0_e _ _ _ _ _ _) ?_; refine bld_nil ?_) | refine nw_row (cs' := jC g.a.rn o.on (jr0 super d area (D (startS super d area)))) rfl (fun n => ?_) | refine call_gr (hw _ _) (.grp takeG (.blk takeC (.blk takeC .nil))) ?_ | refine call_go (ha2 _ _ _ a1 a2) (.grp takeG (.blk takeC (.blk takeC .nil))) (fun o2 b1 b2 => ?_) | refine ld1_lit ?_ | refine ldN_lit ?_ | refine nw (fun n => ?_) | (refine ifs (fun h => ?_) (fun h => ?_) <;> try (exfalso; first | omega | with_reducible first | contradiction | exact h rfl)))
 all_goals (conv => whnf)
 all_goals exact fin_g (A := rgM _ ++ (orcM o2 ++ [jB n g.a.rn o.on _])) (.grp takeG (.grp takeG (.blk takeC .nil))) ⟨n, o2, by rw [b1, a1], b2, rfl, rfl⟩
end Jrn
namespace Cau
open Go Ev
theorem und27 : Tryz.prog.underlying 43 = some (.int .i64) := by kernel_rfl
theorem ta_nil (w : World) : (Instr.typeAssert .nilIface 20 43 true).run Tryz.prog w = .ok (.tuple #[.int .i64 0, .bool false]) w := by
 have hz : (zeroValue 43).run Tryz.prog w = .ok (.int .i64 0) w := by
  obtain ⟨i, hi, hz⟩ : ∃ i, Tryz.prog.info? 43 = some i ∧ i.zero = some (.int .i64 0) := ⟨_, rfl, rfl⟩
  simp [zeroValue, typeInfo, hi, hz]
 simp only [Instr.typeAssert, Sem.run_bind, run_underlying und27, Result.andThen_ok, hz, if_true, Sem.run_pure]
theorem ta_err (c : Int) (w : World) : (Instr.typeAssert (.iface 43 (.int .i64 c)) 20 43 true).run Tryz.prog w = .ok (.tuple #[.int .i64 c, .bool true]) w := by
 simp only [Instr.typeAssert, Sem.run_bind, run_underlying und27, Result.andThen_ok, if_true, Sem.run_pure]
theorem fr10 (p : Addr) : (#[Value.pointer (some p)] ++ Array.replicate (10 - (#[Value.pointer (some p)] : Array Value).size) undef : Array Value) = #[.pointer (some p), undef, undef, undef, undef, undef, undef, undef, undef, undef] := rfl
theorem catch_idle (p : Addr) (w : World) :
 CallsD Tryz.prog 154 #[.pointer (some p)] .returning w fun e u' w' => e = .returned (.tuple #[]) ∧ u' = .returning ∧ w' = w := by
 refine callsD_of_wpS Tryz.func154 rfl fun c₀ cs hu => ?_
 rw [Tryz.ntmps154, fr10]
 apply wpS_seq
 apply wpS_region
 simp [wpOpsS, go_sem, recoverD, hu, ta_nil, Exit.thenS]
 apply wpS_seq
 apply wpS_region
 simp [wpOpsS, go_sem, Exit.thenS]
 refine wpS_cond (t := false) (by simp [Act.eval]) ?_
 simp only [Bool.false_eq_true, if_false]
 refine wpS_of_wp (wp_skip ?_)
 cases c₀
 simp_all [bodyPostS, results, Tryz.results154]
theorem catch_pan (p : Addr) (c x : Int) (w : World) (hc : w.cell? p = some (.int .i64 x)) (hz : w.frozen? p = false) :
 CallsD Tryz.prog 154 #[.pointer (some p)] (.panicking [{ v := .iface 43 (.int .i64 c), recovered := false }]) w fun e u' w' => e = .returned (.tuple #[]) ∧ u' = .panicking [{ v := .iface 43 (.int .i64 c), recovered := true }] ∧ w' = w.setCell p (.int .i64 c) := by
 refine callsD_of_wpS Tryz.func154 rfl fun c₀ cs hu => ?_
 rw [Tryz.ntmps154, fr10]
 apply wpS_seq
 apply wpS_region
 simp [wpOpsS, go_sem, recoverD, hu, ta_err, Exit.thenS]
 apply wpS_seq
 apply wpS_region
 simp [wpOpsS, go_sem, Exit.thenS]
 refine wpS_cond (t := true) (by simp [Act.eval]) ?_
 simp only [if_true]
 apply wpS_region
 simp [wpOpsS, go_sem, hc, hz, bodyPostS, results, Tryz.results154]
theorem app_of {α : Type} {l m : List α} {k : List α → Prop} (h : k (l ++ m)) : appK l m k := by rw [appK_eq]; exact h
abbrev pe (c : Int) : List PanicEntry := [{ v := .iface 43 (.int .i64 c), recovered := false }]
def Ends (Q : Option Int → List Blk → Prop) : Ending → List Blk → Prop := fun e M => ∃ o, Q o M ∧ match o with | none => ∃ v, e = .returned v | some c => e = .panicked (pe c)
theorem caught_ (f : FuncId) (fs cs : List Value) (A : List Blk) (Q : Option Int → List Blk → Prop) (hg : Fnc Tryz.prog f ((fs ++ []) ++ cs) A (Ends Q)) :
 Fnc Tryz.prog 90 [.func (.func f) fs.toArray cs.toArray] A (fun e M => ∃ o : Option Int, Q o M ∧ e = .returned (.int .i64 (o.getD 0))) := by
 delta Fnc
 refine ⟨by kernel_rfl, fun w hm => ?_⟩
 refine calls_of_wp_defers Tryz.func90 rfl ?_
 rw [Tryz.ntmps90]
 rw [show (([Value.func (.func f) fs.toArray cs.toArray].toArray ++ Array.replicate (6 - [Value.func (.func f) fs.toArray cs.toArray].toArray.size) undef : Array Value)) = [Value.func (.func f) fs.toArray cs.toArray, undef, undef, undef, undef, undef].toArray from rfl]
 refine wp_seq (wp_mono (cw_sound _ [Value.func (.func f) fs.toArray cs.toArray, undef, undef, undef, undef, undef] A (fun e fr' M' => e = .normal ∧ ∃ n, fr' = [Value.func (.func f) fs.toArray cs.toArray, undef, .pointer (some ⟨n, 0, none⟩), undef, undef, undef] ∧ M' = ⟨n, .cells [.int .i64 0] 43⟩ :: A) ?_ A w w [] (St.init hm)) fun e a' w1 hq => ?_)
 · (conv => whnf)
   refine nw fun n => ?_
   (conv => whnf)
   exact ⟨rfl, n, rfl, rfl⟩
 obtain ⟨fr1, M1, rfl, st1, rfl, n, rfl, rfl⟩ := hq
 show Code.wp _ _ _ _ w1
 refine wp_seq ?_
 refine wp_region_list ?_
 simp [wpList, go_sem]
 refine .inl (.inl ?_)
 refine wp_mono (cw_sound _ [Value.func (.func f) fs.toArray cs.toArray, undef, .pointer (some ⟨n, 0, none⟩), .func (.func 154) #[] #[.pointer (some ⟨n, 0, none⟩)], undef, undef] (⟨n, .cells [.int .i64 0] 43⟩ :: A)
  (fun e fr' M' => ∃ o M2, fr'.toArray.getD 2 undef = .pointer (some ⟨n, 0, none⟩) ∧ Q o M2 ∧ M' = M2 ++ [⟨n, .cells [.int .i64 0] 43⟩] ∧ e = (match o with | none => .ret | some c => .panic (pe c))) ?_ A w w1 _ st1) fun e a' w2 hq => ?_
 · (conv => whnf)
   refine app_of ?_
   (conv => whnf)
   refine app_of ?_
   (conv => whnf)
   refine call_g hg (R := [⟨n, .cells [.int .i64 0] 43⟩]) (.one ⟨List.perm_append_comm (l₁ := [_])⟩) (fun e A' hq => ?_)
   obtain ⟨o, hq, he⟩ := hq
   cases o with
   | none =>
     obtain ⟨v, rfl⟩ := he
     (conv => whnf)
     refine need rfl ?_
     (conv => whnf)
     refine st_lit (n := n) rfl ?_
     (conv => whnf)
     exact ⟨none, A', rfl, hq, rfl, rfl⟩
   | some c =>
     subst he
     (conv => whnf)
     exact ⟨some c, A', rfl, hq, rfl, rfl⟩
 obtain ⟨fr2, M2', rfl, st2, o, M2, hfr, hQ, rfl, rfl⟩ := hq
 have hcell : ∀ (z : Int) (w : World), (⟨n, .cells [.int .i64 z] 43⟩ : Blk).holds w → w.cell? ⟨n, 0, none⟩ = some (.int .i64 z) := fun z w h => by
  simp only [Blk.holds] at h
  simp [World.cell?, h]
 have hres : ∀ (z : Int) (w : World), w.cell? ⟨n, 0, none⟩ = some (.int .i64 z) → (results Tryz.f90 fr2.toArray).run Tryz.prog w = .ok (.int .i64 z) w := fun z w hc => by
  refine results_run (vs := [.int .i64 z]) ?_
  rw [Tryz.results90]
  simp [resOne, hfr, asAddr, loadVar_one und27 rfl hc]
 have hinv : ∀ w : World, (invoke (.fn (.func 154) #[.pointer (some ⟨n, 0, none⟩)]) #[]).run Tryz.prog w = .ok (.enter 154 #[.pointer (some ⟨n, 0, none⟩)]) w := fun w => by simp [go_sem]
 have hh := st2.has ⟨n, .cells [.int .i64 0] 43⟩ (by simp)
 have hc0 := hcell 0 w2 hh
 cases o with
 | none =>
   show Leaves _ _ _ _ _ .returning w2
   refine leaves_cons (by simp) (hinv w2) ?_
   refine (catch_idle ⟨n, 0, none⟩ w2).mono ?_
   rintro e u' w'' ⟨rfl, rfl, rfl⟩
   exact ⟨.int .i64 0, hres 0 _ hc0, M2, st2.left, none, hQ, rfl⟩
 | some c =>
   show Leaves _ _ _ _ _ (.panicking (pe c)) w2
   have hz : w2.frozen? ⟨n, 0, none⟩ = false := by
    simp only [Blk.holds] at hh
    simp [World.frozen?, hh]
   refine leaves_cons (by simp) (hinv w2) ?_
   refine (catch_pan ⟨n, 0, none⟩ c 0 w2 hc0 hz).mono ?_
   rintro e u' w'' ⟨rfl, rfl, rfl⟩
   obtain ⟨w3, M3, hr3, st3, hk3⟩ := (st_lit (P := Tryz.prog) (M := M2 ++ [⟨n, .cells [.int .i64 0] 43⟩]) (n := n) (off := 0) (cs := [.int .i64 0]) (t := 43) (f := fun b => M2 ++ [b]) (vs := [.int .i64 c]) (k := fun M' => M' = M2 ++ [(⟨n, .cells [.int .i64 c] 43⟩ : Blk)]) rfl rfl).out A w w2 st2
   have e3 : w3 = w2.setCell ⟨n, 0, none⟩ (.int .i64 c) := by
    have : (storeCells ⟨n, 0, none⟩ [.int .i64 c] 0).run Tryz.prog w2 = .ok () (w2.setCell ⟨n, 0, none⟩ (.int .i64 c)) := by
     simp [go_sem, hc0, hz]
    rw [this] at hr3
    cases hr3; rfl
   subst hk3
   rw [e3] at st3
   have hh3 := st3.has ⟨n, .cells [.int .i64 c] 43⟩ (by simp)
   exact ⟨.int .i64 c, hres c _ (hcell c _ hh3), M2, st3.left, some c, hQ, rfl⟩
end Cau
namespace Reg
open Go Ev Be Geom
abbrev Dg := Nat → UInt8
def dl (a : Dg) : List UInt8 := (List.range 32).map a
abbrev dV (a : Dg) : List Value := [.int .u8 ((a 0).toNat : Int), .int .u8 ((a 1).toNat : Int), .int .u8 ((a 2).toNat : Int), .int .u8 ((a 3).toNat : Int), .int .u8 ((a 4).toNat : Int), .int .u8 ((a 5).toNat : Int), .int .u8 ((a 6).toNat : Int), .int .u8 ((a 7).toNat : Int), .int .u8 ((a 8).toNat : Int), .int .u8 ((a 9).toNat : Int), .int .u8 ((a 10).toNat : Int), .int .u8 ((a 11).toNat : Int), .int .u8 ((a 12).toNat : Int), .int .u8 ((a 13).toNat : Int), .int .u8 ((a 14).toNat : Int), .int .u8 ((a 15).toNat : Int), .int .u8 ((a 16).toNat : Int), .int .u8 ((a 17).toNat : Int), .int .u8 ((a 18).toNat : Int), .int .u8 ((a 19).toNat : Int), .int .u8 ((a 20).toNat : Int), .int .u8 ((a 21).toNat : Int), .int .u8 ((a 22).toNat : Int), .int .u8 ((a 23).toNat : Int), .int .u8 ((a 24).toNat : Int), .int .u8 ((a 25).toNat : Int), .int .u8 ((a 26).toNat : Int), .int .u8 ((a 27).toNat : Int), .int .u8 ((a 28).toNat : Int), .int .u8 ((a 29).toNat : Int), .int .u8 ((a 30).toNat : Int), .int .u8 ((a 31).toNat : Int)]
abbrev zV : List Value := [.int .u8 0, .int .u8 0, .int .u8 0, .int .u8 0, .int .u8 0, .int .u8 0, .int .u8 0, .int .u8 0, .int .u8 0, .int .u8 0, .int .u8 0, .int .u8 0, .int .u8 0, .int .u8 0, .int .u8 0, .int .u8 0, .int .u8 0, .int .u8 0, .int .u8 0, .int .u8 0, .int .u8 0, .int .u8 0, .int .u8 0, .int .u8 0, .int .u8 0, .int .u8 0, .int .u8 0, .int .u8 0, .int .u8 0, .int .u8 0, .int .u8 0, .int .u8 0]
theorem dV_u8 (a : Dg) : dV a = u8s (dl a) := rfl
abbrev regL (a b : Dg) (e iv a0 a1 u0 u1 d m : Int) (t : Bool) : List Value := [.int .u8 ((a 0).toNat : Int), .int .u8 ((a 1).toNat : Int), .int .u8 ((a 2).toNat : Int), .int .u8 ((a 3).toNat : Int), .int .u8 ((a 4).toNat : Int), .int .u8 ((a 5).toNat : Int), .int .u8 ((a 6).toNat : Int), .int .u8 ((a 7).toNat : Int), .int .u8 ((a 8).toNat : Int), .int .u8 ((a 9).toNat : Int), .int .u8 ((a 10).toNat : Int), .int .u8 ((a 11).toNat : Int), .int .u8 ((a 12).toNat : Int), .int .u8 ((a 13).toNat : Int), .int .u8 ((a 14).toNat : Int), .int .u8 ((a 15).toNat : Int), .int .u8 ((a 16).toNat : Int), .int .u8 ((a 17).toNat : Int), .int .u8 ((a 18).toNat : Int), .int .u8 ((a 19).toNat : Int), .int .u8 ((a 20).toNat : Int), .int .u8 ((a 21).toNat : Int), .int .u8 ((a 22).toNat : Int), .int .u8 ((a 23).toNat : Int), .int .u8 ((a 24).toNat : Int), .int .u8 ((a 25).toNat : Int), .int .u8 ((a 26).toNat : Int), .int .u8 ((a 27).toNat : Int), .int .u8 ((a 28).toNat : Int), .int .u8 ((a 29).toNat : Int), .int .u8 ((a 30).toNat : Int), .int .u8 ((a 31).toNat : Int), .int .u8 ((b 0).toNat : Int), .int .u8 ((b 1).toNat : Int), .int .u8 ((b 2).toNat : Int), .int .u8 ((b 3).toNat : Int), .int .u8 ((b 4).toNat : Int), .int .u8 ((b 5).toNat : Int), .int .u8 ((b 6).toNat : Int), .int .u8 ((b 7).toNat : Int), .int .u8 ((b 8).toNat : Int), .int .u8 ((b 9).toNat : Int), .int .u8 ((b 10).toNat : Int), .int .u8 ((b 11).toNat : Int), .int .u8 ((b 12).toNat : Int), .int .u8 ((b 13).toNat : Int), .int .u8 ((b 14).toNat : Int), .int .u8 ((b 15).toNat : Int), .int .u8 ((b 16).toNat : Int), .int .u8 ((b 17).toNat : Int), .int .u8 ((b 18).toNat : Int), .int .u8 ((b 19).toNat : Int), .int .u8 ((b 20).toNat : Int), .int .u8 ((b 21).toNat : Int), .int .u8 ((b 22).toNat : Int), .int .u8 ((b 23).toNat : Int), .int .u8 ((b 24).toNat : Int), .int .u8 ((b 25).toNat : Int), .int .u8 ((b 26).toNat : Int), .int .u8 ((b 27).toNat : Int), .int .u8 ((b 28).toNat : Int), .int .u8 ((b 29).toNat : Int), .int .u8 ((b 30).toNat : Int), .int .u8 ((b 31).toNat : Int), .int .i64 e, .int .i64 iv, .int .i64 a0, .int .i64 a1, .int .i64 u0, .int .i64 u1, .int .i64 d, .int .i64 m, .bool t]
abbrev regZ : List Value := [.int .u8 0, .int .u8 0, .int .u8 0, .int .u8 0, .int .u8 0, .int .u8 0, .int .u8 0, .int .u8 0, .int .u8 0, .int .u8 0, .int .u8 0, .int .u8 0, .int .u8 0, .int .u8 0, .int .u8 0, .int .u8 0, .int .u8 0, .int .u8 0, .int .u8 0, .int .u8 0, .int .u8 0, .int .u8 0, .int .u8 0, .int .u8 0, .int .u8 0, .int .u8 0, .int .u8 0, .int .u8 0, .int .u8 0, .int .u8 0, .int .u8 0, .int .u8 0, .int .u8 0, .int .u8 0, .int .u8 0, .int .u8 0, .int .u8 0, .int .u8 0, .int .u8 0, .int .u8 0, .int .u8 0, .int .u8 0, .int .u8 0, .int .u8 0, .int .u8 0, .int .u8 0, .int .u8 0, .int .u8 0, .int .u8 0, .int .u8 0, .int .u8 0, .int .u8 0, .int .u8 0, .int .u8 0, .int .u8 0, .int .u8 0, .int .u8 0, .int .u8 0, .int .u8 0, .int .u8 0, .int .u8 0, .int .u8 0, .int .u8 0, .int .u8 0, .int .i64 0, .int .i64 0, .int .i64 0, .int .i64 0, .int .i64 0, .int .i64 0, .int .i64 0, .int .i64 0, .bool false]
structure RR (b : Dg) (e iv a0 a1 u0 u1 d m : Int) (t : Bool) : Prop where
 e0 : 0 ≤ e
 e1 : e ≤ 4294967295
 i0 : 0 ≤ iv
 i1 : iv ≤ 1099511627776
 d0 : 0 ≤ d
 d1 : d ≤ 8
 m0 : 0 ≤ m
 m1 : m ≤ 2
 a00 : 0 ≤ a0
 a01 : a0 ≤ 1
 a10 : 0 ≤ a1
 a11 : a1 ≤ 1
 u00 : 0 ≤ u0
 u01 : u0 ≤ 80
 u10 : 0 ≤ u1
 u11 : u1 ≤ 80
 at1 : t = false → d = 0
 at2 : t = false → a1 = 0
 at3 : t = false → u1 = 0
 at4 : t = false → dV b = zV
 md : m = 0 ∨ d = 0
def by1 (x : Int) : UInt8 := UInt8.ofNat x.toNat
def layL (a b : Dg) (e iv a0 a1 u0 u1 d m : Int) (t : Bool) : List UInt8 :=
 dl a ++ dl b ++ bb 4 e.toNat ++ bb 8 iv.toNat ++ [by1 a0, by1 u0, by1 a1, by1 u1, by1 d, by1 m, (if t then 1 else 0), 103] ++ List.replicate 12 0
theorem layL_length (a b : Dg) (e iv a0 a1 u0 u1 d m : Int) (t : Bool) : (layL a b e iv a0 a1 u0 u1 d m t).length = 96 := rfl
abbrev L96 (c : Dg) : List UInt8 := [c 0, c 1, c 2, c 3, c 4, c 5, c 6, c 7, c 8, c 9, c 10, c 11, c 12, c 13, c 14, c 15, c 16, c 17, c 18, c 19, c 20, c 21, c 22, c 23, c 24, c 25, c 26, c 27, c 28, c 29, c 30, c 31, c 32, c 33, c 34, c 35, c 36, c 37, c 38, c 39, c 40, c 41, c 42, c 43, c 44, c 45, c 46, c 47, c 48, c 49, c 50, c 51, c 52, c 53, c 54, c 55, c 56, c 57, c 58, c 59, c 60, c 61, c 62, c 63, c 64, c 65, c 66, c 67, c 68, c 69, c 70, c 71, c 72, c 73, c 74, c 75, c 76, c 77, c 78, c 79, c 80, c 81, c 82, c 83, c 84, c 85, c 86, c 87, c 88, c 89, c 90, c 91, c 92, c 93, c 94, c 95]
theorem str_96 {s : ByteArray} (h : s.size = 96) : ∃ c : Dg, s = str (L96 c) := by
 refine ⟨fun i => s.data.toList.getD i 0, ?_⟩
 have hl : s.data.toList.length = 96 := h
 rw [← str_eta s]
 congr 1
 have e : L96 (fun i => s.data.toList.getD i 0) = (List.range 96).map (fun i => s.data.toList.getD i 0) := rfl
 rw [str_data, e]
 apply List.ext_getElem?
 intro i
 rw [List.getElem?_map]
 by_cases hi : i < 96
 · have hi' : i < s.data.toList.length := by omega
   rw [List.getElem?_range hi, List.getElem?_eq_getElem hi', Option.map_some, List.getD_eq_getElem?_getD, List.getElem?_eq_getElem hi']
   rfl
 · rw [List.getElem?_eq_none (by omega), List.getElem?_eq_none (by simp; omega)]; rfl
end Reg
namespace Reg
open Go Ev Be Geom
theorem putE1 {n : Int} (h0 : 0 ≤ n) (h1 : n ≤ 255) : putE n 1 = 0 := by
 refine putE_ok (by omega) ?_
 have : ((256 : Int) ^ (1 : Int).toNat) = 256 := rfl
 rw [this]; omega
theorem putE4 {n : Int} (h0 : 0 ≤ n) (h1 : n ≤ 4294967295) : putE n 4 = 0 := by
 refine putE_ok (by omega) ?_
 have : ((256 : Int) ^ (4 : Int).toNat) = 4294967296 := rfl
 rw [this]; omega
theorem bb1 (n : Nat) : bb 1 n = [UInt8.ofNat n] := by
 show [UInt8.ofNat (n / 256 ^ 0 % 256)] = _
 congr 1
 apply UInt8.toNat_inj.1
 simp
theorem putS1 {n : Int} (h0 : 0 ≤ n) (h1 : n ≤ 255) : putS n 1 = str [by1 n] := by
 rw [putS_ok (putE1 h0 h1), show (Int.toNat 1) = 1 from rfl, bb1]; rfl
theorem rowE_8 {l : List Int} (h8 : l.length ≤ 512) (h : ∀ x ∈ l, 0 ≤ x ∧ x ≤ 255) : rowE 1 l = 0 ∧ rowS 1 l = str (l.map by1) := by
 have hf : ∀ l : List Int, (∀ x ∈ l, 0 ≤ x ∧ x ≤ 255) → fe 1 l = 0 ∧ cat 1 l = l.map by1 := by
  intro l
  induction l with
  | nil => intro _; exact ⟨rfl, rfl⟩
  | cons x l ih =>
    intro h
    obtain ⟨i1, i2⟩ := ih (fun y hy => h y (List.mem_cons_of_mem _ hy))
    have hx := h x List.mem_cons_self
    refine ⟨by rw [fe, if_pos (putE1 hx.1 hx.2)]; exact i1, ?_⟩
    unfold cat at i2 ⊢
    rw [List.flatMap_cons, i2, putS1 hx.1 hx.2]
    rfl
 obtain ⟨i1, i2⟩ := hf l h
 have e : rowE 1 l = 0 := by unfold rowE; rw [if_neg (by omega), if_neg (by omega), i1]
 refine ⟨e, ?_⟩
 unfold rowS
 rw [if_pos e, i2]
def atI (t : Bool) : Int := if t then 1 else 0
section
variable {a b : Dg} {e iv a0 a1 u0 u1 d m : Int} {t : Bool}
theorem row_reg (h : RR b e iv a0 a1 u0 u1 d m t) : rowE 1 [a0, u0, a1, u1, d, m, atI t, 103] = 0 ∧ rowS 1 [a0, u0, a1, u1, d, m, atI t, 103] = str [by1 a0, by1 u0, by1 a1, by1 u1, by1 d, by1 m, (if t then 1 else 0), 103] := by
 have := rowE_8 (l := [a0, u0, a1, u1, d, m, atI t, 103]) (by simp) (by
  intro x hx
  have h1 := h.a00; have h2 := h.a01; have h3 := h.a10; have h4 := h.a11; have h5 := h.u00; have h6 := h.u01; have h7 := h.u10; have h8 := h.u11; have h9 := h.d0; have h10 := h.d1; have h11 := h.m0; have h12 := h.m1
  simp only [List.mem_cons, List.not_mem_nil, or_false] at hx
  have ht : atI t = 0 ∨ atI t = 1 := by cases t; exact .inl rfl; exact .inr rfl
  omega)
 refine ⟨this.1, this.2.trans ?_⟩
 congr 1
 cases t <;> rfl
theorem putS_e (h : RR b e iv a0 a1 u0 u1 d m t) : putS e 4 = str (bb 4 e.toNat) := putS_ok (putE4 h.e0 h.e1)
theorem putS_iv (h : RR b e iv a0 a1 u0 u1 d m t) : putS iv 8 = str (bb 8 iv.toNat) := putS_ok (putE8 h.i0)
theorem pad_reg (h : RR b e iv a0 a1 u0 u1 d m t) : padE (str (dl a) ++ str (dl b) ++ putS e 4 ++ putS iv 8 ++ str [by1 a0, by1 u0, by1 a1, by1 u1, by1 d, by1 m, (if t then 1 else 0), 103]) 96 = 0 ∧
 padS (str (dl a) ++ str (dl b) ++ putS e 4 ++ putS iv 8 ++ str [by1 a0, by1 u0, by1 a1, by1 u1, by1 d, by1 m, (if t then 1 else 0), 103]) 96 = str (layL a b e iv a0 a1 u0 u1 d m t) := by
 rw [putS_e h, putS_iv h]
 simp only [str_append]
 generalize hl : dl a ++ dl b ++ bb 4 e.toNat ++ bb 8 iv.toNat ++ [by1 a0, by1 u0, by1 a1, by1 u1, by1 d, by1 m, (if t then 1 else 0), 103] = l
 have hlen : l.length = 84 := by rw [← hl]; rfl
 have hE : padE (str l) 96 = 0 := by
  unfold padE
  rw [if_neg (by omega), if_neg (by rw [Ev.str_size]; omega)]
 refine ⟨hE, ?_⟩
 unfold padS full
 rw [if_pos hE, if_neg (by rw [Ev.str_size]; omega), Ev.str_size, hlen, str_append, ← hl]
 rfl
end
end Reg
namespace Geom
open Go Ev
end Geom
end Go.Proofs.YtkjamonkohpcnaaGreat
