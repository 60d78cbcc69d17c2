/- Plain laws of package be: bytes of numbers are in order as the numbers are, and give them back. -/
import Derived.Test.YtkjamonkohpcnaaGreatMz12
import Derived.Test.YtkjamonkohpcnaaGreatMz4
import Derived.Test.YtkjamonkohpcnaaGreatMz10
import Derived.Test.YtkjamonkohpcnaaGreatMz5
import Derived.Test.YtkjamonkohpcnaaGreatProg
import Derived.WalkKit
import Derived.Defers
import Derived.Recover
import Derived.KernelRfl
namespace Go.Proofs.YtkjamonkohpcnaaGreat.Be
open Go Ev
set_option linter.unusedVariables false
set_option linter.unusedSimpArgs false
theorem step_pow (n i : Nat) : n % 256 ^ (i + 1) = n % 256 ^ i + 256 ^ i * (n / 256 ^ i % 256) := Nat.mod_pow_succ
theorem fold_bb : ∀ (i n acc : Nat), (bb i n).foldl (fun n (b : UInt8) => n * 256 + b.toNat) acc = acc * 256 ^ i + n % 256 ^ i
  | 0, n, acc => by simp [bb, Nat.mod_one]
  | i + 1, n, acc => by
    simp only [bb, List.foldl_cons]
    rw [fold_bb i n, step_pow, UInt8.toNat_ofNat', Nat.mod_eq_of_lt (Nat.mod_lt _ (by omega)), Nat.pow_succ, Nat.add_mul, Nat.mul_assoc, Nat.mul_comm 256, Nat.mul_comm (n / 256 ^ i % 256)]
    omega
theorem bval_bb (i n : Nat) : bval (bb i n) = n % 256 ^ i := by
  have := fold_bb i n 0
  simpa [bval] using this
theorem putS_size {a k : Int} (h : putE a k = 0) : ((putS a k).size : Int) = k := by
  have hk : 1 ≤ k := by
    unfold putE at h
    by_cases h1 : k < 1 ∨ 8 < k
    · rw [if_pos h1] at h; cases h
    · omega
  rw [putS_ok h]; simp; omega
end Go.Proofs.YtkjamonkohpcnaaGreat.Be
/- Plain laws of package be: numbers in a row. -/
namespace Go.Proofs.YtkjamonkohpcnaaGreat.Be
open Go Ev
set_option linter.unusedVariables false
set_option linter.unusedSimpArgs false
/-- The first number that has no room, as an error (0: all have room). -/
def fe (w : Int) : List Int → Int
  | [] => 0
  | x :: l => if putE x w = 0 then fe w l else putE x w
/-- The bytes of all, one behind the other. -/
def cat (w : Int) (l : List Int) : List UInt8 := l.flatMap fun x => (putS x w).data.toList
theorem cat_snoc (w : Int) (l : List Int) (x : Int) : cat w (l ++ [x]) = cat w l ++ (putS x w).data.toList := by simp [cat]
theorem fe_take {w : Int} : ∀ {l : List Int} {i : Nat} {x : Int}, l[i]? = some x → fe w (l.take i) = 0 → fe w (l.take (i + 1)) = putE x w
  | [], i, x, h, _ => by simp at h
  | y :: l, 0, x, h, _ => by
    simp at h; subst h
    simp only [List.take_succ_cons, List.take_zero, fe]
    split <;> simp_all
  | y :: l, i + 1, x, h, h0 => by
    simp only [List.take_succ_cons, fe] at h0 ⊢
    by_cases hy : putE y w = 0
    · rw [if_pos hy] at h0 ⊢
      exact fe_take (by simpa using h) h0
    · rw [if_neg hy] at h0; exact absurd h0 hy
theorem fe_stop {w : Int} : ∀ {l : List Int} {i : Nat}, fe w (l.take i) ≠ 0 → fe w l = fe w (l.take i)
  | [], i, h => by simp
  | y :: l, 0, h => by simp [fe] at h
  | y :: l, i + 1, h => by
    simp only [List.take_succ_cons, fe] at h ⊢
    by_cases hy : putE y w = 0
    · rw [if_pos hy] at h ⊢; rw [if_pos hy]; exact fe_stop h
    · rw [if_neg hy] at h ⊢; rw [if_neg hy]
def rowE (w : Int) (l : List Int) : Int := if 512 < l.length then 4 else if w < 1 ∨ 8 < w then 2 else fe w l
def rowS (w : Int) (l : List Int) : ByteArray := if rowE w l = 0 then str (cat w l) else str []
theorem putS_le {x w : Int} : (putS x w).size ≤ 8 := by
  by_cases h : putE x w = 0
  · have := putS_size h
    unfold putE at h
    by_cases h1 : w < 1 ∨ 8 < w
    · rw [if_pos h1] at h; cases h
    · omega
  · rw [putS_no h]; simp
theorem cat_le (w : Int) : ∀ l : List Int, (cat w l).length ≤ 8 * l.length
  | [] => by simp [cat]
  | x :: l => by
    have := cat_le w l
    have h := putS_le (x := x) (w := w)
    have h' : (putS x w).data.toList.length = (putS x w).size := rfl
    simp only [cat, List.flatMap_cons, List.length_append, List.length_cons] at this ⊢
    omega
end Go.Proofs.YtkjamonkohpcnaaGreat.Be
/- The law BeReads: any bytes read in any parts. -/
namespace Go.Proofs.YtkjamonkohpcnaaGreat.Be
open Go Ev
set_option linter.unusedVariables false
set_option linter.unusedSimpArgs false
/-- The cells of parts. -/
def part (p : Int × Bool) : List Value := [.int .i64 p.1, .bool p.2]
def parts (l : List (Int × Bool)) : List Value := (l.map part).flatten
attribute [local irreducible] getN getE byS byE byA parts
end Go.Proofs.YtkjamonkohpcnaaGreat.Be
/- The first block's bytes: plain laws. -/
namespace Go.Proofs.YtkjamonkohpcnaaGreat.Geom
open Go Ev Be
set_option linter.unusedVariables false
set_option linter.unusedSimpArgs false
theorem str_size (l : List UInt8) : (str l).size = l.length := by simp [str, ByteArray.size]
theorem ext_str (l : List UInt8) (i j : Nat) : (str l).extract i j = str ((l.take j).drop i) := by
  apply ByteArray.ext
  simp [str, ByteArray.data_extract, List.extract_eq_take_drop, List.drop_take]
/-- A geometry's first block: the bytes ahead of the check, and all. -/
def headL (b s m : Int) : List UInt8 := [99, 108, 114, 116] ++ bb 2 b.toNat ++ bb 2 s.toNat ++ bb 8 m.toNat ++ List.replicate 16 0
def supS (b s m : Int) (c : ByteArray) : ByteArray := str (headL b s m) ++ c
theorem headL_length (b s m : Int) : (headL b s m).length = 32 := rfl
def gB (s : ByteArray) : Int := getN (s.extract 4 6)
def gS (s : ByteArray) : Int := getN (s.extract 6 8)
def gM (s : ByteArray) : Int := getN (s.extract 8 16)
def readOk (s : ByteArray) : Prop := s.size = 64 ∧ Right (gB s) (gS s) (gM s) ∧ supS (gB s) (gS s) (gM s) (s.extract 32 64) = s
instance (s : ByteArray) : Decidable (readOk s) := by unfold readOk; infer_instance
theorem putE2 {n : Int} (h0 : 0 ≤ n) (h1 : n ≤ 65535) : putE n 2 = 0 := by
  refine putE_ok (by omega) ?_
  have : ((256 : Int) ^ (2 : Int).toNat) = 65536 := rfl
  rw [this]; omega
theorem putE8 {n : Int} (h0 : 0 ≤ n) : putE n 8 = 0 := putE_ok (by omega) (by omega)
theorem right_b {b s m : Int} (h : Right b s m) : putE b 2 = 0 := putE2 (by have := h.1; omega) (by have := h.2.1; omega)
theorem right_s {b s m : Int} (h : Right b s m) : putE s 2 = 0 := putE2 (by have := h.2.2.2.1; omega) (by have := h.2.2.2.2.1; omega)
theorem right_m {b s m : Int} (h : Right b s m) : putE m 8 = 0 := putE8 (by have := h.2.2.2.2.2.1; omega)
theorem row_head {b s m : Int} (h : Right b s m) : rowE 2 [b, s] = 0 ∧ rowS 2 [b, s] = putS b 2 ++ putS s 2 := by
  have e : rowE 2 [b, s] = 0 := by
    unfold rowE
    rw [if_neg (by simp), if_neg (by omega)]
    simp [fe, right_b h, right_s h]
  refine ⟨e, ?_⟩
  unfold rowS
  rw [if_pos e]
  simp only [cat, List.flatMap_cons, List.flatMap_nil, List.append_nil]
  rw [← str_append, str_eta, str_eta]
theorem head_pad {b s m : Int} (h : Right b s m) : padE (({ data := #[99, 108, 114, 116] } : ByteArray) ++ (putS b 2 ++ putS s 2) ++ putS m 8) 32 = 0 ∧
    padS (({ data := #[99, 108, 114, 116] } : ByteArray) ++ (putS b 2 ++ putS s 2) ++ putS m 8) 32 = str (headL b s m) := by
  rw [putS_ok (right_b h), putS_ok (right_s h), putS_ok (right_m h)]
  have e : ({ data := #[99, 108, 114, 116] } : ByteArray) = str [99, 108, 114, 116] := rfl
  rw [e]
  simp only [str_append]
  generalize hl : [99, 108, 114, 116] ++ (bb (Int.toNat 2) b.toNat ++ bb (Int.toNat 2) s.toNat) ++ bb (Int.toNat 8) m.toNat = l
  have hlen : l.length = 16 := by rw [← hl]; rfl
  have hE : padE (str l) 32 = 0 := by
    unfold padE
    rw [if_neg (by omega), if_neg (by rw [str_size]; omega)]
  refine ⟨hE, ?_⟩
  unfold padS full
  rw [if_pos hE, if_neg (by rw [str_size]; omega), str_size, hlen, str_append, ← hl]
  rfl
end Go.Proofs.YtkjamonkohpcnaaGreat.Geom
/- Journals: blocks written, records that count. -/
namespace Go.Proofs.YtkjamonkohpcnaaGreat.Jrn
open Go Ev Sha Aes Orc Node Rec Chn
open Rig (RigP Rg rgM readR writeR flushR setRegR z64 app_of tick comes write_ mayE RigA)
set_option linter.unusedVariables false
set_option linter.unusedSimpArgs false
set_option maxRecDepth 100000
structure Fine (r : RigP) : Prop where
  down : r.down = false
  arm : r.arm = 0
  fault : r.fault = 0
  later : r.later = 0
def ticked (r : RigP) : RigP := { r with calls := IntKind.i64.wrap (r.calls + 1) }
theorem Fine.tick {r : RigP} (h : Fine r) : tick r = (ticked r, none) := by
  obtain ⟨d0, d1, reg, down, calls, later, arm, fault, td, ti, ts, htd⟩ := r
  obtain ⟨h1, h2, h3, h4⟩ := h
  simp only at h1 h2 h3 h4
  subst h1; subst h2; subst h3; subst h4
  simp [Rig.tick, Rig.comes, Rig.tk, Rig.tk1, Rig.tk0, ticked]
theorem Fine.ticked {r : RigP} (h : Fine r) : Fine (ticked r) := ⟨h.down, h.arm, h.fault, h.later⟩
theorem Fine.setDev {r : RigP} (h : Fine r) (d : Int) (x : Rig.DevC) : Fine (r.setDev d x) := by
  unfold Rig.RigP.setDev
  split
  · exact ⟨h.down, h.arm, h.fault, h.later⟩
  · exact ⟨h.down, h.arm, h.fault, h.later⟩
/-- A block written by a rig that nobody hurts. -/
def wrF (r : RigP) (d : Int) (i : Nat) (s : ByteArray) : RigP := (ticked r).setDev d (Rig.writeD ((ticked r).dev d) i s)
theorem mayE_ok {d i : Int} (hd : d = 0 ∨ d = 1) (h0 : 0 ≤ i) (hi : i < 288) : mayE d i = 0 := by
  unfold mayE; rw [if_neg (by omega), if_neg (by omega)]
theorem Fine.write {r : RigP} (h : Fine r) {d : Int} {i : Nat} {s : ByteArray} (hd : d = 0 ∨ d = 1) (hi : i < 288) (hs : s.size = 64) : writeR r d i s = (wrF r d i s, 0) := by
  unfold writeR
  rw [mayE_ok hd (by omega) (by omega), if_neg (by simp), if_neg (by simp [hs]), h.tick]
  rfl
theorem Fine.wrF {r : RigP} (h : Fine r) (d : Int) (i : Nat) (s : ByteArray) : Fine (wrF r d i s) := (h.ticked).setDev _ _
theorem writeF (x : Rg) (d : Int) (i : Nat) (s : ByteArray) (h : Fine x.r) (hd : d = 0 ∨ d = 1) (hi : i < 288) (hs : s.size = 64) :
    Fnc Tryz.prog 92 [pt x.a.rn, .int .i64 d, .int .i64 i, .string s] (rgM x) (Ret (.int .i64 0) (rgM ⟨x.a, wrF x.r d i s⟩)) := by
  have := write_ x d i s
  rw [h.write hd hi hs] at this
  exact this
structure JrP where
  super : ByteArray
  d : Nat
  area : Nat
  used : Nat
  seq : Int
  root : Dg
  anchor : Dg
def jC (rn on : Nat) (x : JrP) : List Value := [pt rn, pt on, .string x.super, .int .i64 x.d, .int .i64 x.area, .int .i64 x.used, .int .i64 x.seq] ++ (dgV x.root ++ (dgV x.anchor ++ []))
def whC (x : JrP) : List Value := [.string x.super, .int .i64 x.d, .int .i64 x.area]
abbrev jB (n rn on : Nat) (x : JrP) : Blk := ⟨n, .row (jC rn on x) 252⟩
section
variable {rn on : Nat} {x : JrP}
theorem jC_len : (jC rn on x).length = 71 := by unfold jC; simp [dgV_len]
theorem jC_0 : (jC rn on x)[0]? = some (pt rn) := rfl
theorem jC_1 : (jC rn on x)[1]? = some (pt on) := rfl
theorem jC_d : (jC rn on x)[3]? = some (.int .i64 x.d) := rfl
theorem jC_a : (jC rn on x)[4]? = some (.int .i64 x.area) := rfl
theorem jC_u : (jC rn on x)[5]? = some (.int .i64 x.used) := rfl
theorem jC_s : (jC rn on x)[6]? = some (.int .i64 x.seq) := rfl
theorem jC_w : ((jC rn on x).drop 2).take (whC x).length = whC x := rfl
theorem jC_r : ((jC rn on x).drop 7).take (dgV x.root).length = dgV x.root := rfl
theorem jC_n : ((jC rn on x).drop 39).take (dgV x.anchor).length = dgV x.anchor := rfl
theorem jC_su {u : Nat} : (jC rn on x).set 5 (.int .i64 u) = jC rn on { x with used := u } := rfl
theorem jC_ss {u : Int} : (jC rn on x).set 6 (.int .i64 u) = jC rn on { x with seq := u } := rfl
theorem jC_sr {b : Dg} : (jC rn on x).take 7 ++ dgV b ++ (jC rn on x).drop (7 + (dgV b).length) = jC rn on { x with root := b } := rfl
theorem jC_sn {b : Dg} : (jC rn on x).take 39 ++ dgV b ++ (jC rn on x).drop (39 + (dgV b).length) = jC rn on { x with anchor := b } := rfl
end
theorem fldN_r {RO : List Blk} {n off m : Nat} {cs : List Value} {t : TypeId} {K : List Value → Prop} [h : Look RO n (.row cs t)] (l : List Value) (hl : (cs.drop off).take l.length = l) (hm : l.length = m) (hk : K l) : FLdN RO n off m K :=
  ⟨⟨l, hm, fun w hw => row_at (hw.1 _ h.mem) hl, hk⟩⟩
section
variable {P : Program} {M : List Blk} {n rn on : Nat} {x : JrP} {T : TypeId} {f : Blk → List Blk} {k : List Blk → Prop} [z : Zip M n (.row (jC rn on x) T) f]
theorem st_ju {u : Nat} (hk : k (f ⟨n, .row (jC rn on { x with used := u }) T⟩)) : StN P M n 5 [.int .i64 u] k := st_row rfl (by rw [jC_len]; omega) (by rw [jC_su]; exact hk)
theorem st_js {u : Int} (hk : k (f ⟨n, .row (jC rn on { x with seq := u }) T⟩)) : StN P M n 6 [.int .i64 u] k := st_row rfl (by rw [jC_len]; omega) (by rw [jC_ss]; exact hk)
theorem st_jr {b : Dg} (hk : k (f ⟨n, .row (jC rn on { x with root := b }) T⟩)) : StN P M n 7 (dgV b) k := st_rowN (dgV_one b) (by rw [jC_len, dgV_len]; omega) (by rw [jC_sr]; exact hk)
theorem st_jn {b : Dg} (hk : k (f ⟨n, .row (jC rn on { x with anchor := b }) T⟩)) : StN P M n 39 (dgV b) k := st_rowN (dgV_one b) (by rw [jC_len, dgV_len]; omega) (by rw [jC_sn]; exact hk)
end
theorem rcC_rt {seq : Int} {root : Dg} : ((rcC seq root).drop 1).take (dgV root).length = dgV root := rfl
theorem jblock (super : ByteArray) (d area i : Nat) (ha : area ≤ 1) (hi : i < 80) : Fnc Tryz.prog 218 [.agg #[.string super, .int .i64 d, .int .i64 area], .int .i64 i] [] (Ret (.int .i64 ((1 + 80 * area + i : Nat) : Int)) []) := by
  have h := Geom.areaAt area i
  rw [if_pos ⟨by omega, by omega, by omega, by omega⟩, show (1 : Int) + 80 * (area : Int) + (i : Int) = ((1 + 80 * area + i : Nat) : Int) by omega] at h
  refine fn_intro Tryz.func218 (by kernel_rfl) ?_
  repeat' ((conv => whnf); first
      | refine call_val h ?_
      | refine ld1_lit ?_
      | refine nw (fun n => ?_))
  all_goals (conv => whnf)
  all_goals exact fin_nil ⟨rfl, rfl⟩
def jr0 (super : ByteArray) (d area : Nat) (a : Dg) : JrP := ⟨super, d, area, 0, 0, zD, a⟩
def jz (rn on : Nat) (super : ByteArray) (d area : Nat) : List Value := [pt rn, pt on, .string super, .int .i64 d, .int .i64 area, .int .i64 0, .int .i64 0] ++ List.replicate 64 (Value.int .u8 0)
theorem jr0_e (rn on : Nat) (super : ByteArray) (d area : Nat) (a : Dg) : (jz rn on super d area).take 39 ++ dgV a ++ (jz rn on super d area).drop (39 + 32) = jC rn on (jr0 super d area a) := rfl
attribute [local irreducible] dgV D jC wrF rcC
abbrev sB (bk : Nat) (s : ByteArray) : Blk := ⟨bk, .cells [.string s] 9⟩
theorem jwrite (g : Rg) (jn on bk : Nat) (x : JrP) (s : ByteArray) (hf : Fine g.r) (hd : x.d ≤ 1) (ha : x.area ≤ 1) (hu : x.used < 80) (hs : s.size = 64) :
    Fnc Tryz.prog 179 [pt jn, .slice (some ⟨bk, 0, none⟩) 1 1] (rgM g ++ [jB jn g.a.rn on x, sB bk s])
      (Ret (.int .i64 0) (rgM ⟨g.a, wrF g.r x.d (1 + 80 * x.area + x.used) s⟩ ++ [jB jn g.a.rn on x, sB bk s])) := by
  have hb := jblock x.super x.d x.area x.used ha hu
  have hw := writeF g x.d (1 + 80 * x.area + x.used) s hf (by omega) (by omega) hs
  refine fn_intro Tryz.func179 (by kernel_rfl) ?_
  repeat' ((conv => whnf); first
      | refine loop_n 2 ?_
      | refine draw_any 5 [(0, true), (1, true), (2, true), (3, true), (4, true), (6, true), (7, true), (8, true), (10, true), (11, true), (12, true), (14, true), (17, true), (5, true), (9, true), (13, false), (15, true), (16, false), (18, false), (19, true)] [⟨jn, _⟩] rfl (by kernel_rfl) (kept_of (.cons takeC .nil) ?_)
      | refine kept_of (.cons takeC .nil) ?_
      | refine fld1_row jC_d ?_
      | refine fldN_r _ jC_w rfl ?_
      | refine ld1_row jC_0 ?_
      | refine ld1_row jC_u ?_
      | refine nv_eq (a := 0) rfl ?_
      | (refine wr (fun z hz => ?_); rw [show ((x.used : Int) + 0) = (x.used : Int) by omega, w64 (by omega) (by omega)] at hz; subst hz)
      | refine call_val hb ?_
      | refine call_gr hw (.one takeG) ?_
      | refine ld1_lit ?_
      | refine need (by first | rfl | omega) ?_
      | (refine wr (fun z hz => ?_); (try rw [Int.tdiv_eq_ediv_of_nonneg (by omega)] at hz); rw [w64 (by omega) (by omega)] at hz; subst hz)
      | (refine ifs (fun h => ?_) (fun h => ?_) <;> (try (exfalso; first | omega | with_reducible contradiction | with_reducible exact h rfl))))
  all_goals (conv => whnf)
  all_goals exact fin_g (A := rgM _ ++ [jB jn g.a.rn on x, sB bk s]) (.grp takeG (.blk takeC (.blk takeC .nil))) ⟨rfl, rfl⟩
/-- A record without blocks counts. -/
noncomputable def addJ (x : JrP) (seq : Int) (root : Dg) (s : ByteArray) : JrP := { x with anchor := D (nextS x.anchor s), used := x.used + 1, seq := seq, root := root }
theorem jadd (o : Orc) (jn rn bk : Nat) (x : JrP) (seq : Int) (root : Dg) (s : ByteArray) (hs : s.size = 64) (hu : x.used < 1000) (hb : o.ts.length ≤ 1099511627776) :
    Fnc Tryz.prog 180 [pt jn, .agg (rcC seq root).toArray, .slice (some ⟨bk, 0, none⟩) 1 1] (orcM o ++ [jB jn rn o.on x, sB bk s])
      (RetO o (addT o.ts (nextS x.anchor s)) (fun o' => orcM o' ++ [jB jn rn o.on (addJ x seq root s), sB bk s]) (.tuple #[])) := by
  have hn := next_ o x.anchor bk 9 s hs hb
  refine fn_intro Tryz.func180 (by kernel_rfl) ?_
  repeat' ((conv => whnf); first
      | refine force_of ?_
      | refine nw_row (cs' := rcC seq root) rfl (fun n => ?_)
      | refine draw_tree 1 (.take 0 (.take 1 (.take 2 (.take 3 (.take 5 (.take 6 (.take 7 (.take 9 (.two 4 8 (.only 8 (.only 10 (.take 11 (.take 12 (.take 13 (.take 14 (.take 15 (.only 16 .nil)))))))) (.only 4 (.only 10 (.take 11 (.take 12 (.take 13 (.take 14 (.take 15 (.only 16 .nil))))))))))))))))) [] rfl (by kernel_rfl) ?_
      | refine And.intro ?_ ?_
      | refine kept_nil ?_
      | refine ld1_row (n := jn) jC_1 ?_
      | refine draw_any 3 [(0, true), (1, true), (2, true), (4, true), (3, true), (6, true), (7, true), (5, true), (8, false), (9, true), (10, true), (11, false)] [⟨n, _⟩] rfl (by kernel_rfl) (kept_of (.cons takeC .nil) ?_)
      | refine kept_of (.cons takeC .nil) ?_
      | refine fld1_row rcC_0 ?_
      | refine fldN_r _ rcC_rt (dgV_len _) ?_
      | refine ldN_row (n := jn) _ jC_n (dgV_len _) ?_
      | refine ld1_row jC_u ?_
      | refine call_go hn (.blk takeC (.one takeG)) (fun o' h1 h2 => ?_)
      | (refine need ?_ ?_; exact dgV_len _)
      | (refine wr (fun z hz => ?_); replace hz : z = IntKind.i64.wrap ((x.used + 1 : Nat) : Int) := hz; rw [w64 (by omega) (by omega)] at hz; subst hz)
      | refine st_jn ?_
      | refine st_ju ?_
      | refine st_js ?_
      | refine st_jr ?_
      | refine need (by first | rfl | omega) ?_)
  all_goals (conv => whnf)
  all_goals first
    | rfl
    | exact fin_g (A := orcM o' ++ [jB jn rn o.on (addJ x seq root s), sB bk s]) (.grp takeG (.blk takeC (.blk takeC .nil))) ⟨o', h1, h2, rfl, rfl⟩
section
variable (jn rn on : Nat) (x : JrP)
theorem janchor : Fnc Tryz.prog 126 [pt jn] [jB jn rn on x] (Ret (.agg (dgV x.anchor).toArray) [jB jn rn on x]) := by
  refine fn_intro Tryz.func126 (by kernel_rfl) ?_
  repeat' ((conv => whnf); first
      | refine force_of ?_
      | refine nw_z (fun n => ?_)
      | refine ldN_row (n := jn) _ jC_n (dgV_len _) ?_
      | (refine need ?_ ?_; exact dgV_len _)
      | refine st_dg ?_
      | refine ldN_dg rfl ?_)
  all_goals (conv => whnf)
  all_goals exact fin_pick (A' := [jB jn rn on x]) (.cons takeC .nil) ⟨rfl, rfl⟩
theorem jroot : Fnc Tryz.prog 148 [pt jn] [jB jn rn on x] (Ret (.agg (dgV x.root).toArray) [jB jn rn on x]) := by
  refine fn_intro Tryz.func148 (by kernel_rfl) ?_
  repeat' ((conv => whnf); first
      | refine force_of ?_
      | refine nw_z (fun n => ?_)
      | refine ldN_row (n := jn) _ jC_r (dgV_len _) ?_
      | (refine need ?_ ?_; exact dgV_len _)
      | refine st_dg ?_
      | refine ldN_dg rfl ?_)
  all_goals (conv => whnf)
  all_goals exact fin_pick (A' := [jB jn rn on x]) (.cons takeC .nil) ⟨rfl, rfl⟩
theorem jused : Fnc Tryz.prog 127 [pt jn] [jB jn rn on x] (Ret (.int .i64 x.used) [jB jn rn on x]) := by
  refine fn_intro Tryz.func127 (by kernel_rfl) ?_
  repeat' ((conv => whnf); first
      | refine ld1_row jC_u ?_)
  all_goals (conv => whnf)
  all_goals exact fin_all ⟨rfl, rfl⟩
theorem jarea : Fnc Tryz.prog 177 [pt jn] [jB jn rn on x] (Ret (.int .i64 x.area) [jB jn rn on x]) := by
  refine fn_intro Tryz.func177 (by kernel_rfl) ?_
  repeat' ((conv => whnf); first
      | refine ld1_row jC_a ?_)
  all_goals (conv => whnf)
  all_goals exact fin_all ⟨rfl, rfl⟩
theorem jseq : Fnc Tryz.prog 123 [pt jn] [jB jn rn on x] (Ret (.int .i64 x.seq) [jB jn rn on x]) := by
  refine fn_intro Tryz.func123 (by kernel_rfl) ?_
  repeat' ((conv => whnf); first
      | refine ld1_row jC_s ?_)
  all_goals (conv => whnf)
  all_goals exact fin_all ⟨rfl, rfl⟩
end
set_option maxHeartbeats 2000000 in
theorem jbegin (g : Rg) (o : Orc) (super : ByteArray) (d area : Nat) (seq : Int) (root : Dg) (hf : Fine g.r) (hd : d ≤ 1) (ha : area ≤ 1) (hs : super.size = 64) (hq : seqOk seq) (hb : o.ts.length ≤ 1099511627000) :
    Fnc Tryz.prog 207 [pt g.a.rn, pt o.on, .agg #[.string super, .int .i64 d, .int .i64 area], .agg (rcC seq root).toArray] (rgM g ++ orcM o)
      (fun e A => ∃ (jn : Nat) (o' : Orc), o'.on = o.on ∧ o'.ts = addT (addT o.ts (startS super d area)) (nextS (D (startS super d area)) (recB seq root)) ∧ e = .returned (.tuple #[pt jn, .int .i64 0]) ∧
        A = rgM ⟨g.a, wrF g.r d (1 + 80 * area) (recB seq root)⟩ ++ (orcM o' ++ [jB jn g.a.rn o.on (addJ (jr0 super d area (D (startS super d area))) seq root (recB seq root))])) := by
  have hst := start_ o super d area hd ha hs (by omega)
  have hlay := rlay seq root hq
  have hsz := recB_size hq root
  have hw := fun jn bk => jwrite g jn o.on bk (jr0 super d area (D (startS super d area))) (recB seq root) hf hd ha (by show 0 < 80; omega) hsz
  have ha2 : ∀ (o1 : Orc) (jn bk : Nat), o1.on = o.on → o1.ts = addT o.ts (startS super d area) → Fnc Tryz.prog 180 [pt jn, .agg (rcC seq root).toArray, .slice (some ⟨bk, 0, none⟩) 1 1] (orcM o1 ++ [jB jn g.a.rn o.on (jr0 super d area (D (startS super d area))), sB bk (recB seq root)])
      (RetO o1 (addT (addT o.ts (startS super d area)) (nextS (D (startS super d area)) (recB seq root))) (fun o' => orcM o' ++ [jB jn g.a.rn o.on (addJ (jr0 super d area (D (startS super d area))) seq root (recB seq root)), sB bk (recB seq root)]) (.tuple #[])) := fun o1 jn bk h1 h2 => by
    have hl := addT_len o.ts (startS super d area)
    have := jadd o1 jn g.a.rn bk (jr0 super d area (D (startS super d area))) seq root (recB seq root) hsz (by show 0 < 1000; omega) (by rw [h2]; omega)
    rw [h1, h2] at this
    exact this
  refine fn_intro Tryz.func207 (by kernel_rfl) ?_
  repeat' ((conv => whnf); first
      | refine force_of ?_
      | refine nw_row (cs' := rcC seq root) rfl (fun n => ?_)
      | refine nw_z (fun n => ?_)
      | refine call_go hst (.one takeG) (fun o1 a1 a2 => ?_)
      | (refine call_g hlay .nil (fun e A' hq => ?_); obtain ⟨bk, h1, h2⟩ := hq; subst h1; subst h2)
      | (refine need ?_ ?_; exact dgV_len _)
      | refine st_dg ?_
      | refine ldN_dg rfl ?_
      | refine ldN_whole (rcC_len _ _) ?_
      | refine ld1_row rcC_p ?_
      | (refine bld_cons (vs := [_]) rfl rfl rfl (Nat.le_of_ble_eq_true rfl) rfl ?_; refine bld_cons (vs := [_]) rfl rfl rfl (Nat.le_of_ble_eq_true rfl) rfl ?_; refine bld_cons (vs := [_, _, _]) rfl rfl rfl (Nat.le_of_ble_eq_true rfl) rfl ?_; refine bld_cons (vs := dgV (D (startS super d area))) (cs1 := jC g.a.rn o.on (jr0 super d area (D (startS super d area)))) rfl rfl (dgV_len _) (Nat.le_of_ble_eq_true rfl) (jr0_e _ _ _ _ _ _) ?_; refine bld_nil ?_)
      | refine nw_row (cs' := jC g.a.rn o.on (jr0 super d area (D (startS super d area)))) rfl (fun n => ?_)
      | refine call_gr (hw _ _) (.grp takeG (.blk takeC (.blk takeC .nil))) ?_
      | refine call_go (ha2 _ _ _ a1 a2) (.grp takeG (.blk takeC (.blk takeC .nil))) (fun o2 b1 b2 => ?_)
      | refine ld1_lit ?_
      | refine ldN_lit ?_
      | refine nw (fun n => ?_)
      | (refine ifs (fun h => ?_) (fun h => ?_) <;> (try (exfalso; first | omega | with_reducible contradiction | with_reducible exact h rfl))))
  all_goals (conv => whnf)
  all_goals exact fin_g (A := rgM _ ++ (orcM o2 ++ [jB n g.a.rn o.on _])) (.grp takeG (.grp takeG (.blk takeC .nil))) ⟨n, o2, by rw [b1, a1], b2, rfl, rfl⟩
end Go.Proofs.YtkjamonkohpcnaaGreat.Jrn
/- What gives up is caught. -/
namespace Go.Proofs.YtkjamonkohpcnaaGreat.Cau
open Go Ev
set_option linter.unusedVariables false
set_option linter.unusedSimpArgs false
set_option maxRecDepth 100000
theorem und27 : Tryz.prog.underlying 43 = some (.int .i64) := by kernel_rfl
theorem ta_nil (w : World) : (Instr.typeAssert .nilIface 20 43 true).run Tryz.prog w = .ok (.tuple #[.int .i64 0, .bool false]) w := by
  have hz : (zeroValue 43).run Tryz.prog w = .ok (.int .i64 0) w := by
    obtain ⟨i, hi, hz⟩ : ∃ i, Tryz.prog.info? 43 = some i ∧ i.zero = some (.int .i64 0) := ⟨_, rfl, rfl⟩
    simp [zeroValue, typeInfo, hi, hz]
  simp only [Instr.typeAssert, Sem.run_bind, run_underlying und27, Result.andThen_ok, hz, if_true, Sem.run_pure]
theorem ta_err (c : Int) (w : World) : (Instr.typeAssert (.iface 43 (.int .i64 c)) 20 43 true).run Tryz.prog w = .ok (.tuple #[.int .i64 c, .bool true]) w := by
  simp only [Instr.typeAssert, Sem.run_bind, run_underlying und27, Result.andThen_ok, if_true, Sem.run_pure]
theorem fr10 (p : Addr) : (#[Value.pointer (some p)] ++ Array.replicate (10 - (#[Value.pointer (some p)] : Array Value).size) undef : Array Value) = #[.pointer (some p), undef, undef, undef, undef, undef, undef, undef, undef, undef] := rfl
set_option maxHeartbeats 4000000 in
theorem catch_idle (p : Addr) (w : World) :
    CallsD Tryz.prog 154 #[.pointer (some p)] .returning w fun e u' w' => e = .returned (.tuple #[]) ∧ u' = .returning ∧ w' = w := by
  refine callsD_of_wpS Tryz.func154 rfl fun c₀ cs hu => ?_
  rw [Tryz.ntmps154, fr10]
  apply wpS_seq
  apply wpS_region
  simp [wpOpsS, go_sem, recoverD, hu, ta_nil, Exit.thenS]
  apply wpS_seq
  apply wpS_region
  simp [wpOpsS, go_sem, Exit.thenS]
  refine wpS_cond (t := false) (by simp [Act.eval]) ?_
  simp only [Bool.false_eq_true, if_false]
  refine wpS_of_wp (wp_skip ?_)
  cases c₀
  simp_all [bodyPostS, results, Tryz.results154]
set_option maxHeartbeats 4000000 in
theorem catch_pan (p : Addr) (c x : Int) (w : World) (hc : w.cell? p = some (.int .i64 x)) (hz : w.frozen? p = false) :
    CallsD Tryz.prog 154 #[.pointer (some p)] (.panicking [{ v := .iface 43 (.int .i64 c), recovered := false }]) w fun e u' w' => e = .returned (.tuple #[]) ∧ u' = .panicking [{ v := .iface 43 (.int .i64 c), recovered := true }] ∧ w' = w.setCell p (.int .i64 c) := by
  refine callsD_of_wpS Tryz.func154 rfl fun c₀ cs hu => ?_
  rw [Tryz.ntmps154, fr10]
  apply wpS_seq
  apply wpS_region
  simp [wpOpsS, go_sem, recoverD, hu, ta_err, Exit.thenS]
  apply wpS_seq
  apply wpS_region
  simp [wpOpsS, go_sem, Exit.thenS]
  refine wpS_cond (t := true) (by simp [Act.eval]) ?_
  simp only [if_true]
  apply wpS_region
  simp [wpOpsS, go_sem, hc, hz, bodyPostS, results, Tryz.results154]
theorem app_of {α : Type} {l m : List α} {k : List α → Prop} (h : k (l ++ m)) : appK l m k := by rw [appK_eq]; exact h
/-- The error with which something gave up. -/
abbrev pe (c : Int) : List PanicEntry := [{ v := .iface 43 (.int .i64 c), recovered := false }]
/-- It ends, or gives up with an error. -/
def Ends (Q : Option Int → List Blk → Prop) : Ending → List Blk → Prop := fun e M => ∃ o, Q o M ∧ match o with | none => ∃ v, e = .returned v | some c => e = .panicked (pe c)
set_option maxHeartbeats 4000000 in
theorem caught_ (f : FuncId) (fs cs : List Value) (A : List Blk) (Q : Option Int → List Blk → Prop) (hg : Fnc Tryz.prog f ((fs ++ []) ++ cs) A (Ends Q)) :
    Fnc Tryz.prog 90 [.func (.func f) fs.toArray cs.toArray] A (fun e M => ∃ o : Option Int, Q o M ∧ e = .returned (.int .i64 (o.getD 0))) := by
  delta Fnc
  refine ⟨by kernel_rfl, fun w hm => ?_⟩
  refine calls_of_wp_defers Tryz.func90 rfl ?_
  rw [Tryz.ntmps90]
  rw [show (([Value.func (.func f) fs.toArray cs.toArray].toArray ++ Array.replicate (6 - [Value.func (.func f) fs.toArray cs.toArray].toArray.size) undef : Array Value)) = [Value.func (.func f) fs.toArray cs.toArray, undef, undef, undef, undef, undef].toArray from rfl]
  refine wp_seq (wp_mono (cw_sound _ [Value.func (.func f) fs.toArray cs.toArray, undef, undef, undef, undef, undef] A (fun e fr' M' => e = .normal ∧ ∃ n, fr' = [Value.func (.func f) fs.toArray cs.toArray, undef, .pointer (some ⟨n, 0, none⟩), undef, undef, undef] ∧ M' = ⟨n, .cells [.int .i64 0] 43⟩ :: A) ?_ A w w [] (St.init hm)) fun e a' w1 hq => ?_)
  · (conv => whnf)
    refine nw fun n => ?_
    (conv => whnf)
    exact ⟨rfl, n, rfl, rfl⟩
  obtain ⟨fr1, M1, rfl, st1, rfl, n, rfl, rfl⟩ := hq
  show Code.wp _ _ _ _ w1
  refine wp_seq ?_
  refine wp_region_list ?_
  simp [wpList, go_sem]
  refine .inl (.inl ?_)
  refine wp_mono (cw_sound _ [Value.func (.func f) fs.toArray cs.toArray, undef, .pointer (some ⟨n, 0, none⟩), .func (.func 154) #[] #[.pointer (some ⟨n, 0, none⟩)], undef, undef] (⟨n, .cells [.int .i64 0] 43⟩ :: A)
    (fun e fr' M' => ∃ o M2, fr'.toArray.getD 2 undef = .pointer (some ⟨n, 0, none⟩) ∧ Q o M2 ∧ M' = M2 ++ [⟨n, .cells [.int .i64 0] 43⟩] ∧ e = (match o with | none => .ret | some c => .panic (pe c))) ?_ A w w1 _ st1) fun e a' w2 hq => ?_
  · (conv => whnf)
    refine app_of ?_
    (conv => whnf)
    refine app_of ?_
    (conv => whnf)
    refine call_g hg (R := [⟨n, .cells [.int .i64 0] 43⟩]) (.one ⟨List.perm_append_comm (l₁ := [_])⟩) (fun e A' hq => ?_)
    obtain ⟨o, hq, he⟩ := hq
    cases o with
    | none =>
      obtain ⟨v, rfl⟩ := he
      (conv => whnf)
      refine need rfl ?_
      (conv => whnf)
      refine st_lit (n := n) rfl ?_
      (conv => whnf)
      exact ⟨none, A', rfl, hq, rfl, rfl⟩
    | some c =>
      subst he
      (conv => whnf)
      exact ⟨some c, A', rfl, hq, rfl, rfl⟩
  obtain ⟨fr2, M2', rfl, st2, o, M2, hfr, hQ, rfl, rfl⟩ := hq
  have hcell : ∀ (z : Int) (w : World), (⟨n, .cells [.int .i64 z] 43⟩ : Blk).holds w → w.cell? ⟨n, 0, none⟩ = some (.int .i64 z) := fun z w h => by
    simp only [Blk.holds] at h
    simp [World.cell?, h]
  have hres : ∀ (z : Int) (w : World), w.cell? ⟨n, 0, none⟩ = some (.int .i64 z) → (results Tryz.f90 fr2.toArray).run Tryz.prog w = .ok (.int .i64 z) w := fun z w hc => by
    refine results_run (vs := [.int .i64 z]) ?_
    rw [Tryz.results90]
    simp [resOne, hfr, asAddr, loadVar_one und27 rfl hc]
  have hinv : ∀ w : World, (invoke (.fn (.func 154) #[.pointer (some ⟨n, 0, none⟩)]) #[]).run Tryz.prog w = .ok (.enter 154 #[.pointer (some ⟨n, 0, none⟩)]) w := fun w => by simp [go_sem]
  have hh := st2.has ⟨n, .cells [.int .i64 0] 43⟩ (by simp)
  have hc0 := hcell 0 w2 hh
  cases o with
  | none =>
    show Leaves _ _ _ _ _ .returning w2
    refine leaves_cons (by simp) (hinv w2) ?_
    refine (catch_idle ⟨n, 0, none⟩ w2).mono ?_
    rintro e u' w'' ⟨rfl, rfl, rfl⟩
    exact ⟨.int .i64 0, hres 0 _ hc0, M2, st2.left, none, hQ, rfl⟩
  | some c =>
    show Leaves _ _ _ _ _ (.panicking (pe c)) w2
    have hz : w2.frozen? ⟨n, 0, none⟩ = false := by
      simp only [Blk.holds] at hh
      simp [World.frozen?, hh]
    refine leaves_cons (by simp) (hinv w2) ?_
    refine (catch_pan ⟨n, 0, none⟩ c 0 w2 hc0 hz).mono ?_
    rintro e u' w'' ⟨rfl, rfl, rfl⟩
    obtain ⟨w3, M3, hr3, st3, hk3⟩ := (st_lit (P := Tryz.prog) (M := M2 ++ [⟨n, .cells [.int .i64 0] 43⟩]) (n := n) (off := 0) (cs := [.int .i64 0]) (t := 43) (f := fun b => M2 ++ [b]) (vs := [.int .i64 c]) (k := fun M' => M' = M2 ++ [(⟨n, .cells [.int .i64 c] 43⟩ : Blk)]) rfl rfl).out A w w2 st2
    have e3 : w3 = w2.setCell ⟨n, 0, none⟩ (.int .i64 c) := by
      have : (storeCells ⟨n, 0, none⟩ [.int .i64 c] 0).run Tryz.prog w2 = .ok () (w2.setCell ⟨n, 0, none⟩ (.int .i64 c)) := by
        simp [go_sem, hc0, hz]
      rw [this] at hr3
      cases hr3; rfl
    subst hk3
    rw [e3] at st3
    have hh3 := st3.has ⟨n, .cells [.int .i64 c] 43⟩ (by simp)
    exact ⟨.int .i64 c, hres c _ (hcell c _ hh3), M2, st3.left, some c, hQ, rfl⟩
end Go.Proofs.YtkjamonkohpcnaaGreat.Cau
/- Registers and their bytes: plain laws. -/
namespace Go.Proofs.YtkjamonkohpcnaaGreat.Reg
open Go Ev Be Geom
set_option linter.unusedVariables false
set_option linter.unusedSimpArgs false
set_option maxRecDepth 100000
/-- A digest: its bytes. -/
abbrev Dg := Nat → UInt8
def dl (a : Dg) : List UInt8 := (List.range 32).map a
abbrev dV (a : Dg) : List Value := [.int .u8 ((a 0).toNat : Int), .int .u8 ((a 1).toNat : Int), .int .u8 ((a 2).toNat : Int), .int .u8 ((a 3).toNat : Int), .int .u8 ((a 4).toNat : Int), .int .u8 ((a 5).toNat : Int), .int .u8 ((a 6).toNat : Int), .int .u8 ((a 7).toNat : Int), .int .u8 ((a 8).toNat : Int), .int .u8 ((a 9).toNat : Int), .int .u8 ((a 10).toNat : Int), .int .u8 ((a 11).toNat : Int), .int .u8 ((a 12).toNat : Int), .int .u8 ((a 13).toNat : Int), .int .u8 ((a 14).toNat : Int), .int .u8 ((a 15).toNat : Int), .int .u8 ((a 16).toNat : Int), .int .u8 ((a 17).toNat : Int), .int .u8 ((a 18).toNat : Int), .int .u8 ((a 19).toNat : Int), .int .u8 ((a 20).toNat : Int), .int .u8 ((a 21).toNat : Int), .int .u8 ((a 22).toNat : Int), .int .u8 ((a 23).toNat : Int), .int .u8 ((a 24).toNat : Int), .int .u8 ((a 25).toNat : Int), .int .u8 ((a 26).toNat : Int), .int .u8 ((a 27).toNat : Int), .int .u8 ((a 28).toNat : Int), .int .u8 ((a 29).toNat : Int), .int .u8 ((a 30).toNat : Int), .int .u8 ((a 31).toNat : Int)]
abbrev zV : List Value := [.int .u8 0, .int .u8 0, .int .u8 0, .int .u8 0, .int .u8 0, .int .u8 0, .int .u8 0, .int .u8 0, .int .u8 0, .int .u8 0, .int .u8 0, .int .u8 0, .int .u8 0, .int .u8 0, .int .u8 0, .int .u8 0, .int .u8 0, .int .u8 0, .int .u8 0, .int .u8 0, .int .u8 0, .int .u8 0, .int .u8 0, .int .u8 0, .int .u8 0, .int .u8 0, .int .u8 0, .int .u8 0, .int .u8 0, .int .u8 0, .int .u8 0, .int .u8 0]
/-- A register's cells. -/
abbrev regL (a b : Dg) (e iv a0 a1 u0 u1 d m : Int) (t : Bool) : List Value := [.int .u8 ((a 0).toNat : Int), .int .u8 ((a 1).toNat : Int), .int .u8 ((a 2).toNat : Int), .int .u8 ((a 3).toNat : Int), .int .u8 ((a 4).toNat : Int), .int .u8 ((a 5).toNat : Int), .int .u8 ((a 6).toNat : Int), .int .u8 ((a 7).toNat : Int), .int .u8 ((a 8).toNat : Int), .int .u8 ((a 9).toNat : Int), .int .u8 ((a 10).toNat : Int), .int .u8 ((a 11).toNat : Int), .int .u8 ((a 12).toNat : Int), .int .u8 ((a 13).toNat : Int), .int .u8 ((a 14).toNat : Int), .int .u8 ((a 15).toNat : Int), .int .u8 ((a 16).toNat : Int), .int .u8 ((a 17).toNat : Int), .int .u8 ((a 18).toNat : Int), .int .u8 ((a 19).toNat : Int), .int .u8 ((a 20).toNat : Int), .int .u8 ((a 21).toNat : Int), .int .u8 ((a 22).toNat : Int), .int .u8 ((a 23).toNat : Int), .int .u8 ((a 24).toNat : Int), .int .u8 ((a 25).toNat : Int), .int .u8 ((a 26).toNat : Int), .int .u8 ((a 27).toNat : Int), .int .u8 ((a 28).toNat : Int), .int .u8 ((a 29).toNat : Int), .int .u8 ((a 30).toNat : Int), .int .u8 ((a 31).toNat : Int), .int .u8 ((b 0).toNat : Int), .int .u8 ((b 1).toNat : Int), .int .u8 ((b 2).toNat : Int), .int .u8 ((b 3).toNat : Int), .int .u8 ((b 4).toNat : Int), .int .u8 ((b 5).toNat : Int), .int .u8 ((b 6).toNat : Int), .int .u8 ((b 7).toNat : Int), .int .u8 ((b 8).toNat : Int), .int .u8 ((b 9).toNat : Int), .int .u8 ((b 10).toNat : Int), .int .u8 ((b 11).toNat : Int), .int .u8 ((b 12).toNat : Int), .int .u8 ((b 13).toNat : Int), .int .u8 ((b 14).toNat : Int), .int .u8 ((b 15).toNat : Int), .int .u8 ((b 16).toNat : Int), .int .u8 ((b 17).toNat : Int), .int .u8 ((b 18).toNat : Int), .int .u8 ((b 19).toNat : Int), .int .u8 ((b 20).toNat : Int), .int .u8 ((b 21).toNat : Int), .int .u8 ((b 22).toNat : Int), .int .u8 ((b 23).toNat : Int), .int .u8 ((b 24).toNat : Int), .int .u8 ((b 25).toNat : Int), .int .u8 ((b 26).toNat : Int), .int .u8 ((b 27).toNat : Int), .int .u8 ((b 28).toNat : Int), .int .u8 ((b 29).toNat : Int), .int .u8 ((b 30).toNat : Int), .int .u8 ((b 31).toNat : Int), .int .i64 e, .int .i64 iv, .int .i64 a0, .int .i64 a1, .int .i64 u0, .int .i64 u1, .int .i64 d, .int .i64 m, .bool t]
/-- May it be? -/
structure RR (b : Dg) (e iv a0 a1 u0 u1 d m : Int) (t : Bool) : Prop where
  e0 : 0 ≤ e
  e1 : e ≤ 4294967295
  i0 : 0 ≤ iv
  i1 : iv ≤ 1099511627776
  d0 : 0 ≤ d
  d1 : d ≤ 8
  m0 : 0 ≤ m
  m1 : m ≤ 2
  a00 : 0 ≤ a0
  a01 : a0 ≤ 1
  a10 : 0 ≤ a1
  a11 : a1 ≤ 1
  u00 : 0 ≤ u0
  u01 : u0 ≤ 80
  u10 : 0 ≤ u1
  u11 : u1 ≤ 80
  at1 : t = false → d = 0
  at2 : t = false → a1 = 0
  at3 : t = false → u1 = 0
  at4 : t = false → dV b = zV
  md : m = 0 ∨ d = 0
def by1 (x : Int) : UInt8 := UInt8.ofNat x.toNat
def layL (a b : Dg) (e iv a0 a1 u0 u1 d m : Int) (t : Bool) : List UInt8 :=
  dl a ++ dl b ++ bb 4 e.toNat ++ bb 8 iv.toNat ++ [by1 a0, by1 u0, by1 a1, by1 u1, by1 d, by1 m, (if t then 1 else 0), 103] ++ List.replicate 12 0
theorem layL_length (a b : Dg) (e iv a0 a1 u0 u1 d m : Int) (t : Bool) : (layL a b e iv a0 a1 u0 u1 d m t).length = 96 := rfl
end Go.Proofs.YtkjamonkohpcnaaGreat.Reg
/- Registers laid: plain laws. -/
namespace Go.Proofs.YtkjamonkohpcnaaGreat.Reg
open Go Ev Be Geom
set_option linter.unusedVariables false
set_option linter.unusedSimpArgs false
set_option maxRecDepth 100000
theorem putE1 {n : Int} (h0 : 0 ≤ n) (h1 : n ≤ 255) : putE n 1 = 0 := by
  refine putE_ok (by omega) ?_
  have : ((256 : Int) ^ (1 : Int).toNat) = 256 := rfl
  rw [this]; omega
theorem putE4 {n : Int} (h0 : 0 ≤ n) (h1 : n ≤ 4294967295) : putE n 4 = 0 := by
  refine putE_ok (by omega) ?_
  have : ((256 : Int) ^ (4 : Int).toNat) = 4294967296 := rfl
  rw [this]; omega
theorem bb1 (n : Nat) : bb 1 n = [UInt8.ofNat n] := by
  show [UInt8.ofNat (n / 256 ^ 0 % 256)] = _
  congr 1
  apply UInt8.toNat_inj.1
  simp
theorem putS1 {n : Int} (h0 : 0 ≤ n) (h1 : n ≤ 255) : putS n 1 = str [by1 n] := by
  rw [putS_ok (putE1 h0 h1), show (Int.toNat 1) = 1 from rfl, bb1]; rfl
theorem rowE_8 {l : List Int} (h8 : l.length ≤ 512) (h : ∀ x ∈ l, 0 ≤ x ∧ x ≤ 255) : rowE 1 l = 0 ∧ rowS 1 l = str (l.map by1) := by
  have hf : ∀ l : List Int, (∀ x ∈ l, 0 ≤ x ∧ x ≤ 255) → fe 1 l = 0 ∧ cat 1 l = l.map by1 := by
    intro l
    induction l with
    | nil => intro _; exact ⟨rfl, rfl⟩
    | cons x l ih =>
      intro h
      obtain ⟨i1, i2⟩ := ih (fun y hy => h y (List.mem_cons_of_mem _ hy))
      have hx := h x List.mem_cons_self
      refine ⟨by rw [fe, if_pos (putE1 hx.1 hx.2)]; exact i1, ?_⟩
      unfold cat at i2 ⊢
      rw [List.flatMap_cons, i2, putS1 hx.1 hx.2]
      rfl
  obtain ⟨i1, i2⟩ := hf l h
  have e : rowE 1 l = 0 := by unfold rowE; rw [if_neg (by omega), if_neg (by omega), i1]
  refine ⟨e, ?_⟩
  unfold rowS
  rw [if_pos e, i2]
def atI (t : Bool) : Int := if t then 1 else 0
section
variable {a b : Dg} {e iv a0 a1 u0 u1 d m : Int} {t : Bool}
theorem row_reg (h : RR b e iv a0 a1 u0 u1 d m t) : rowE 1 [a0, u0, a1, u1, d, m, atI t, 103] = 0 ∧ rowS 1 [a0, u0, a1, u1, d, m, atI t, 103] = str [by1 a0, by1 u0, by1 a1, by1 u1, by1 d, by1 m, (if t then 1 else 0), 103] := by
  have := rowE_8 (l := [a0, u0, a1, u1, d, m, atI t, 103]) (by simp) (by
    intro x hx
    have h1 := h.a00; have h2 := h.a01; have h3 := h.a10; have h4 := h.a11; have h5 := h.u00; have h6 := h.u01; have h7 := h.u10; have h8 := h.u11; have h9 := h.d0; have h10 := h.d1; have h11 := h.m0; have h12 := h.m1
    simp only [List.mem_cons, List.not_mem_nil, or_false] at hx
    have ht : atI t = 0 ∨ atI t = 1 := by cases t; exact .inl rfl; exact .inr rfl
    omega)
  refine ⟨this.1, this.2.trans ?_⟩
  congr 1
  cases t <;> rfl
theorem putS_e (h : RR b e iv a0 a1 u0 u1 d m t) : putS e 4 = str (bb 4 e.toNat) := putS_ok (putE4 h.e0 h.e1)
theorem putS_iv (h : RR b e iv a0 a1 u0 u1 d m t) : putS iv 8 = str (bb 8 iv.toNat) := putS_ok (putE8 h.i0)
theorem pad_reg (h : RR b e iv a0 a1 u0 u1 d m t) : padE (str (dl a) ++ str (dl b) ++ putS e 4 ++ putS iv 8 ++ str [by1 a0, by1 u0, by1 a1, by1 u1, by1 d, by1 m, (if t then 1 else 0), 103]) 96 = 0 ∧
    padS (str (dl a) ++ str (dl b) ++ putS e 4 ++ putS iv 8 ++ str [by1 a0, by1 u0, by1 a1, by1 u1, by1 d, by1 m, (if t then 1 else 0), 103]) 96 = str (layL a b e iv a0 a1 u0 u1 d m t) := by
  rw [putS_e h, putS_iv h]
  simp only [str_append]
  generalize hl : dl a ++ dl b ++ bb 4 e.toNat ++ bb 8 iv.toNat ++ [by1 a0, by1 u0, by1 a1, by1 u1, by1 d, by1 m, (if t then 1 else 0), 103] = l
  have hlen : l.length = 84 := by rw [← hl]; rfl
  have hE : padE (str l) 96 = 0 := by
    unfold padE
    rw [if_neg (by omega), if_neg (by rw [Ev.str_size]; omega)]
  refine ⟨hE, ?_⟩
  unfold padS full
  rw [if_pos hE, if_neg (by rw [Ev.str_size]; omega), Ev.str_size, hlen, str_append, ← hl]
  rfl
end
end Go.Proofs.YtkjamonkohpcnaaGreat.Reg
/- The laws of layer 9 that only reckon: their Go functions return true. -/
namespace Go.Proofs.YtkjamonkohpcnaaGreat.Geom
open Go Ev
set_option linter.unusedVariables false
set_option maxRecDepth 100000
set_option linter.unusedSimpArgs false
end Go.Proofs.YtkjamonkohpcnaaGreat.Geom
/- be.Row. -/
namespace Go.Proofs.YtkjamonkohpcnaaGreat.Be
open Go Ev
set_option linter.unusedVariables false
set_option maxRecDepth 100000
set_option linter.unusedSimpArgs false
abbrev ints (l : List Int) : List Value := l.map (.int .i64)
theorem row_no {w e : Int} {l : List Int} {A : List Blk} (h : rowE w l = e) (h0 : e ≠ 0) : Ret (.tuple #[.string (rowS w l), .int .i64 (rowE w l)]) A (.returned (oneOrMany [.string { data := #[] }, .int .i64 e])) A := by
  have : rowS w l = str [] := if_neg (by omega)
  rw [this, h]; exact ⟨rfl, rfl⟩
theorem row_bad {w x : Int} {l : List Int} {i : Nat} {A : List Blk} (h1 : ¬ 512 < l.length) (h2 : ¬ (w < 1 ∨ 8 < w)) (hx : l[i]? = some x) (hf : fe w (l.take i) = 0) (h : ¬ putE x w = 0) :
    Ret (.tuple #[.string (rowS w l), .int .i64 (rowE w l)]) A (.returned (oneOrMany [.string { data := #[] }, .int .i64 (putE x w)])) A := by
  have e := fe_take hx hf
  refine row_no ?_ h
  rw [rowE, if_neg h1, if_neg h2, fe_stop (i := i + 1) (by rw [e]; exact h), e]
theorem row_good {w : Int} {l : List Int} {i : Nat} {A : List Blk} (h1 : ¬ 512 < l.length) (h2 : ¬ (w < 1 ∨ 8 < w)) (hi : l.length ≤ i) (hf : fe w (l.take i) = 0) :
    Ret (.tuple #[.string (rowS w l), .int .i64 (rowE w l)]) A (.returned (oneOrMany [.string (str (cat w (l.take i))), .int .i64 0])) A := by
  rw [List.take_of_length_le hi] at *
  have e : rowE w l = 0 := by rw [rowE, if_neg h1, if_neg h2, hf]
  have e2 : rowS w l = str (cat w l) := if_pos e
  rw [e2, e]; exact ⟨rfl, rfl⟩
theorem row (w : Int) (l : List Int) (S : Sl) (hS : S.ok l.length) (hl : l.length ≤ 9223372036854775807) :
    Fnc Tryz.prog 67 [.int .i64 w, S.val l.length] (S.blk (ints l)) (Ret (.tuple #[.string (rowS w l), .int .i64 (rowE w l)]) (S.blk (ints l))) := by
  refine fn_intro Tryz.func67 (by kernel_rfl) ?_
  repeat' ((conv => whnf); first
      | refine ld1_lit ?_
      | refine nw (fun n => ?_)
      | (refine ifs (fun h => ?_) (fun h => ?_) <;> (try (exfalso; first | omega | with_reducible contradiction | with_reducible exact h rfl))))
  rotate_right
  · rename_i b0 h1 h2
    refine loop_rule [23] (fun vs M m => ∃ (i : Nat) (R : Own), vs = [.int .i64 i] ∧ i ≤ l.length ∧ fe w (l.take i) = 0 ∧ R.ok 1 (cat w (l.take i)).length (u8s (cat w (l.take i))) ∧ m = l.length - i ∧
      M = ⟨n, .cells [R.val (cat w (l.take i)).length] 142⟩ :: ⟨b0, .cells [.int .i64 w] 3⟩ :: (R.blk 5 (u8s (cat w (l.take i))) ++ S.blk (ints l))) rfl ?_ ?_
    · exact fin_all ⟨_, 0, .nil, rfl, by omega, rfl, ⟨rfl, rfl⟩, rfl, rfl⟩
    rintro vs junk M' m ⟨i, R, rfl, hi, hf, hR, rfl, rfl⟩
    repeat' ((conv => whnf); first
        | (rcases S with ⟨p, c⟩ | ⟨b, off, cap⟩; (exfalso; have hS : l.length = 0 := hS; omega))
        | (refine need (by constructor <;> omega) ?_)
        | (refine nv (fun z hz => ?_); simp at hz; replace hz := hz.symm; subst hz)
        | (obtain ⟨x, hx⟩ : ∃ x, l[i]? = some x := ⟨l[i]'(by omega), List.getElem?_eq_getElem (by omega)⟩; refine ld1_ro (o := off) (cs := ints l) (j := i) rfl (by simp only [List.getElem?_map, hx]; rfl) ?_)
        | refine call_in Tryz.func131 (by kernel_rfl) ?_
        | refine call_val (put _ _) ?_
        | refine b2s_own (t := 5) (l := cat w (l.take i)) hR rfl rfl rfl ?_
        | refine app_str (e := 5) (xs := u8s (cat w (l.take i))) rfl rfl rfl rfl rfl rfl hR (by have := cat_le w (l.take i); have := putS_le (x := x) (w := w); rw [List.length_take] at *; omega) (fun R' hR' => ?_)
        | exact fin_drop (fin_drop (fin_right (fin_all (row_bad (by omega) (by omega) hx hf ‹_›))))
        | exact fin_drop (fin_drop (fin_right (fin_all (row_good (i := i) (by omega) (by omega) (by omega) hf))))
        | refine fin_all ?_
        | refine ld1_lit ?_
        | refine st_lit rfl ?_
        | (refine wr (fun z hz => ?_); (try rw [Int.tdiv_eq_ediv_of_nonneg (by omega)] at hz); rw [w64 (by omega) (by omega)] at hz; subst hz)
        | (refine ifs (fun h => ?_) (fun h => ?_) <;> (try (exfalso; first | omega | with_reducible contradiction | with_reducible exact h rfl))))
    have ec : cat w (l.take (i + 1)) = cat w (l.take i) ++ (putS x w).data.toList := by
      rw [List.take_add_one, hx]; exact cat_snoc w _ x
    have el : (cat w (l.take (i + 1))).length = (cat w (l.take i)).length + (putS x w).size := by
      rw [ec, List.length_append]; rfl
    have eu : u8s (cat w (l.take (i + 1))) = u8s (cat w (l.take i)) ++ u8s (putS x w).data.toList := by rw [ec, u8s_append]
    (conv => whnf)
    refine ⟨rfl, fin_all ⟨l.length - (i + 1), by omega, i + 1, R', rfl, by omega, by rw [fe_take hx hf]; exact h, by rw [el, eu]; exact hR', rfl, ?_⟩⟩
    rw [el, eu]
  all_goals (conv => whnf)
  · exact fin_drop (fin_all (row_no (if_pos (by omega)) (by omega)))
  · exact fin_drop (fin_all (row_no (by rw [rowE, if_neg (by omega), if_pos (by omega)]) (by omega)))
  · exact fin_drop (fin_all (row_no (by rw [rowE, if_neg (by omega), if_pos (by omega)]) (by omega)))
end Go.Proofs.YtkjamonkohpcnaaGreat.Be
/- The law GeomSupers: the first block's bytes. -/
namespace Go.Proofs.YtkjamonkohpcnaaGreat.Geom
open Go Ev Be
set_option linter.unusedVariables false
set_option linter.unusedSimpArgs false
set_option maxRecDepth 100000
def superS (b s m : Int) (c : ByteArray) : ByteArray := if Right b s m ∧ c.size = 32 then supS b s m c else { data := #[] }
def superE (b s m : Int) (c : ByteArray) : Int := if Right b s m ∧ c.size = 32 then 0 else 2
theorem super_no {b s m : Int} {c : ByteArray} (h : ¬ (Right b s m ∧ c.size = 32)) : Ending.returned (oneOrMany [.string { data := #[] }, .int .i64 2]) = .returned (.tuple #[.string (superS b s m c), .int .i64 (superE b s m c)]) := by
  have e1 : superS b s m c = { data := #[] } := if_neg h
  have e2 : superE b s m c = 2 := if_neg h
  rw [e1, e2]; rfl
theorem super_ok {b s m : Int} {c : ByteArray} (h : Right b s m) (h' : c.size = 32) : Ending.returned (oneOrMany [.string (str (headL b s m) ++ c), .int .i64 0]) = .returned (.tuple #[.string (superS b s m c), .int .i64 (superE b s m c)]) := by
  have e1 : superS b s m c = supS b s m c := if_pos ⟨h, h'⟩
  have e2 : superE b s m c = 0 := if_pos ⟨h, h'⟩
  rw [e1, e2]; rfl
attribute [local irreducible] rowE rowS padE padS putE putS
theorem size4 : ({ data := #[99, 108, 114, 116] } : ByteArray).size = 4 := rfl
theorem super (b s m : Int) (c : ByteArray) (hc : c.size ≤ 140737488351232) : Fnc Tryz.prog 89 [.agg #[.int .i64 b, .int .i64 s, .int .i64 m], .string c] [] (Ret (.tuple #[.string (superS b s m c), .int .i64 (superE b s m c)]) []) := by
  refine fn_intro Tryz.func89 (by kernel_rfl) ?_
  repeat' ((conv => whnf); first
      | refine call_if (check _ _ _) (fun h => ?_) (fun h => ?_)
      | (have hr := row_head ‹Right b s m›; refine call_lit (row 2 [b, s] (Sl.at_ _ 0 2) trivial (by simp)) ?_; rw [hr.1, hr.2])
      | refine call_val (put _ _) ?_
      | (have p1 := putS_le (x := b) (w := 2); have p2 := putS_le (x := s) (w := 2); have p3 := putS_le (x := m) (w := 8); refine need (by rw [show IntKind.i64.max = 9223372036854775807 from rfl]; simp only [ByteArray.size_append, size4, str_size, headL_length]; omega) ?_; refine sv (fun z hz => ?_); subst hz)
      | (have p1 := putS_le (x := b) (w := 2); have p2 := putS_le (x := s) (w := 2); have p3 := putS_le (x := m) (w := 8); have hp := head_pad ‹Right b s m›; refine call_val (pad _ 32 (by simp only [ByteArray.size_append, size4]; omega)) ?_; rw [hp.1, hp.2])
      | refine ld1_lit ?_
      | refine ldN_lit ?_
      | refine nw (fun n => ?_)
      | refine bld ?_
      | (refine ifs (fun h => ?_) (fun h => ?_) <;> (try (exfalso; first | omega | with_reducible contradiction | with_reducible exact h rfl)))
      | refine fin_nil ⟨?_, rfl⟩)
  all_goals first
    | exact super_ok ‹Right b s m› (by omega)
    | exact super_no (fun hc => ‹¬ Right b s m› hc.1)
    | exact super_no (by omega)
    | skip
attribute [local irreducible] superS superE gB gS gM
end Go.Proofs.YtkjamonkohpcnaaGreat.Geom
/- Package reg: whether a register may be, and its bytes. -/
namespace Go.Proofs.YtkjamonkohpcnaaGreat.Reg
open Go Ev Be Geom
set_option linter.unusedVariables false
set_option linter.unusedSimpArgs false
set_option maxRecDepth 100000
theorem within (a hi : Int) : Fnc Tryz.prog 116 [.int .i64 a, .int .i64 hi] [] (Ret (.bool (decide (0 ≤ a ∧ a ≤ hi))) []) := by
  refine fn_intro Tryz.func116 (by kernel_rfl) ?_
  repeat' ((conv => whnf); first
      | (refine ifs (fun h => ?_) (fun h => ?_) <;> (try (exfalso; first | omega | with_reducible contradiction | with_reducible exact h rfl)))
      | refine fin_nil ⟨?_, rfl⟩)
  all_goals exact fin_bool (by simp; omega)
theorem kDg : kindsOf Tryz.prog 3 30 = some (List.replicate 32 (.int .u8)) := by kernel_rfl
theorem fDg (a : Dg) : Fits (List.replicate 32 (.int .u8)) (dV a) := by
  repeat' first | exact trivial | (refine ⟨⟨_, rfl⟩, ?_⟩)
theorem fZ : Fits (List.replicate 32 (.int .u8)) zV := by
  repeat' first | exact trivial | (refine ⟨⟨_, rfl⟩, ?_⟩)
open Classical in
/-- What Check answers. -/
noncomputable def ckE (b : Dg) (e iv a0 a1 u0 u1 d m : Int) (t : Bool) : Int := if RR b e iv a0 a1 u0 u1 d m t then 0 else 2
theorem ck_0 {b : Dg} {e iv a0 a1 u0 u1 d m : Int} {t : Bool} (h : RR b e iv a0 a1 u0 u1 d m t) : ckE b e iv a0 a1 u0 u1 d m t = 0 := if_pos h
theorem ck_2 {b : Dg} {e iv a0 a1 u0 u1 d m : Int} {t : Bool} (h : ¬ RR b e iv a0 a1 u0 u1 d m t) : ckE b e iv a0 a1 u0 u1 d m t = 2 := if_neg h
set_option maxHeartbeats 4000000 in
theorem check (a b : Dg) (e iv a0 a1 u0 u1 d m : Int) (t : Bool) : Fnc Tryz.prog 60 [.agg (regL a b e iv a0 a1 u0 u1 d m t).toArray] [] (Ret (.int .i64 (ckE b e iv a0 a1 u0 u1 d m t)) []) := by
  cases t
  all_goals refine fn_intro Tryz.func60 (by kernel_rfl) ?_
  all_goals repeat' ((conv => whnf); first
      | refine call_bool (within _ _) (fun h => ?_) (fun h => ?_)
      | refine loop_n 3 ?_
      | refine agg_eql kDg (by decide) rfl rfl rfl rfl (by kernel_rfl) (fDg _) fZ ?_
      | (refine nv (fun z hz => ?_); subst hz)
      | refine ld1_lit ?_
      | refine ldN_lit ?_
      | refine nw (fun n => ?_)
      | refine bld ?_
      | refine need (by first | rfl | omega) ?_
      | (refine wr (fun z hz => ?_); (try rw [Int.tdiv_eq_ediv_of_nonneg (by omega)] at hz); rw [w64 (by omega) (by omega)] at hz; subst hz)
      | (refine ifs (fun h => ?_) (fun h => ?_) <;> (try (exfalso; first | omega | with_reducible contradiction | with_reducible exact h rfl)))
      | refine fin_nil ⟨?_, rfl⟩)
  all_goals first
    | exact ret_int (ck_0 ⟨by omega, by omega, by omega, by omega, by omega, by omega, by omega, by omega, by omega, by omega, by omega, by omega, by omega, by omega, by omega, by omega, fun _ => by omega, fun _ => by omega, fun _ => by omega, fun _ => ‹_›, by omega⟩).symm
    | (refine ret_int (ck_2 fun h => ?_).symm; have h1 := h.e0; have h2 := h.e1; have h3 := h.i0; have h4 := h.i1; have h5 := h.d0; have h6 := h.d1; have h7 := h.m0; have h8 := h.m1; have h9 := h.a00; have h10 := h.a01; have h11 := h.a10; have h12 := h.a11; have h13 := h.u00; have h14 := h.u01; have h15 := h.u10; have h16 := h.u11; have h17 := h.md; omega)
    | (refine ret_int (ck_2 fun h => ?_).symm; have h1 := h.at1 rfl; have h2 := h.at2 rfl; have h3 := h.at3 rfl; omega)
    | (refine ret_int (ck_2 fun h => ?_).symm; have h1 := h.at4 rfl; contradiction)
    | (refine ret_int (ck_0 ?_).symm; refine ⟨?_, ?_, ?_, ?_, ?_, ?_, ?_, ?_, ?_, ?_, ?_, ?_, ?_, ?_, ?_, ?_, ?_, ?_, ?_, ?_, ?_⟩ <;> first | omega | (intro hf; exact absurd hf (by decide)))
    | skip
end Go.Proofs.YtkjamonkohpcnaaGreat.Reg
/- reg.Put; R11.Right. -/
namespace Go.Proofs.YtkjamonkohpcnaaGreat.Reg
open Go Ev Be Geom
set_option linter.unusedVariables false
set_option linter.unusedSimpArgs false
set_option maxRecDepth 100000
section
variable {a b : Dg} {e iv a0 a1 u0 u1 d m : Int} {t : Bool}
theorem check_t (a : Dg) (h : RR b e iv a0 a1 u0 u1 d m t) : Fnc Tryz.prog 60 [.agg (regL a b e iv a0 a1 u0 u1 d m t).toArray] [] (Ret (.int .i64 0) []) := by have := check a b e iv a0 a1 u0 u1 d m t; rwa [ck_0 h] at this
theorem check_f (a : Dg) (h : ¬ RR b e iv a0 a1 u0 u1 d m t) : Fnc Tryz.prog 60 [.agg (regL a b e iv a0 a1 u0 u1 d m t).toArray] [] (Ret (.int .i64 2) []) := by have := check a b e iv a0 a1 u0 u1 d m t; rwa [ck_2 h] at this
theorem put_f (a : Dg) (h : ¬ RR b e iv a0 a1 u0 u1 d m t) : Fnc Tryz.prog 163 [.agg (regL a b e iv a0 a1 u0 u1 d m t).toArray] [] (Ret (.tuple #[.string { data := #[] }, .int .i64 2]) []) := by
  refine fn_intro Tryz.func163 (by kernel_rfl) ?_
  repeat' ((conv => whnf); first
      | refine call_val (check_f a h) ?_
      | refine ldN_lit ?_
      | refine nw (fun n => ?_)
      | (refine ifs (fun h => ?_) (fun h => ?_) <;> (try (exfalso; first | omega | with_reducible contradiction | with_reducible exact h rfl)))
      | refine fin_nil ⟨?_, rfl⟩)
  all_goals rfl
attribute [local irreducible] rowE rowS padE padS putE putS layL
theorem puts_size (n w : Int) : (putS n w).size ≤ 8 := putS_le
set_option maxHeartbeats 4000000 in
theorem put_t (a : Dg) (h : RR b e iv a0 a1 u0 u1 d m t) : Fnc Tryz.prog 163 [.agg (regL a b e iv a0 a1 u0 u1 d m t).toArray] [] (Ret (.tuple #[.string (str (layL a b e iv a0 a1 u0 u1 d m t)), .int .i64 0]) []) := by
  have hl : (dl a).length = 32 := by simp [dl]
  have hl' : (dl b).length = 32 := by simp [dl]
  refine fn_intro Tryz.func163 (by kernel_rfl) ?_
  have hr := row_reg h
  have hp := pad_reg (a := a) h
  cases t
  all_goals simp only [atI, Bool.false_eq_true, if_false, if_true] at hr hp
  all_goals repeat' ((conv => whnf); first
      | refine call_val (check_t a ‹_›) ?_
      | refine call_val (put _ _) ?_
      | (refine call_lit (row 1 [a0, u0, a1, u1, d, m, 0, 103] (Sl.at_ _ 0 8) trivial (by simp)) ?_; rw [hr.1, hr.2])
      | (refine call_lit (row 1 [a0, u0, a1, u1, d, m, 1, 103] (Sl.at_ _ 0 8) trivial (by simp)) ?_; rw [hr.1, hr.2])
      | (refine nv (fun z hz => ?_); subst hz)
      | refine draw_quiet rfl (by kernel_rfl) ?_
      | refine qb2s_at (dl a) rfl rfl rfl rfl rfl ?_
      | refine qb2s_at (dl b) rfl rfl rfl rfl rfl ?_
      | (have p1 := puts_size e 4; have p2 := puts_size iv 8; refine need (by rw [show IntKind.i64.max = 9223372036854775807 from rfl]; simp only [ByteArray.size_append, Ev.str_size, List.length_cons, List.length_nil, hl, hl']; omega) ?_; refine sv (fun z hz => ?_); subst hz)
      | (have p1 := puts_size e 4; have p2 := puts_size iv 8; refine qcall_val (pad _ 96 (by simp only [ByteArray.size_append, Ev.str_size, List.length_cons, List.length_nil, hl, hl']; omega)) ?_; rw [hp.1, hp.2])
      | refine ld1_lit ?_
      | refine ldN_lit ?_
      | refine nw (fun n => ?_)
      | refine bld ?_
      | refine need (by first | rfl | omega) ?_
      | (refine ifs (fun h => ?_) (fun h => ?_) <;> (try (exfalso; first | omega | with_reducible contradiction | with_reducible exact h rfl)))
      | refine fin_nil ⟨?_, rfl⟩)
  all_goals rfl
end
end Go.Proofs.YtkjamonkohpcnaaGreat.Reg
