/- A store: what lies in memory, the small functions. -/
import Derived.Test.YtkjamonkohpcnaaGreatMz13
namespace Go.Proofs.YtkjamonkohpcnaaGreat.Sto
open Go Ev Sha Aes Orc Node Rec Chn Jrn Cau
open Rig (RigP Rg rgM readR writeR flushR setRegR z64 app_of tick comes write_ mayE RigA)
set_option linter.unusedVariables false
set_option linter.unusedSimpArgs false
set_option maxRecDepth 100000
/-- What the register says. -/
structure RgV where
  a0 : Dg
  a1 : Dg
  ep : Int
  iv : Int
  ar0 : Int
  ar1 : Int
  u0 : Int
  u1 : Int
  dirty : Int
  mode : Int
  at_ : Bool
def regC (x : RgV) : List Value := dgV x.a0 ++ (dgV x.a1 ++ [.int .i64 x.ep, .int .i64 x.iv, .int .i64 x.ar0, .int .i64 x.ar1, .int .i64 x.u0, .int .i64 x.u1, .int .i64 x.dirty, .int .i64 x.mode, .bool x.at_])
def RgV.set (x : RgV) (d : Nat) (a : Dg) (ar u : Int) : RgV := if d = 0 then { x with a0 := a, ar0 := ar, u0 := u } else { x with a1 := a, ar1 := ar, u1 := u }
theorem regC_len (x : RgV) : (regC x).length = 73 := by unfold regC; simp [dgV_len]
theorem regC_L (x : RgV) : regC x = Reg.regL x.a0 x.a1 x.ep x.iv x.ar0 x.ar1 x.u0 x.u1 x.dirty x.mode x.at_ := rfl
theorem regC_one (x : RgV) : ∀ u ∈ regC x, u.oneCell' = true := by
  intro u hu
  unfold regC at hu
  rcases List.mem_append.1 hu with hu | hu
  · exact dgV_one _ u hu
  · rcases List.mem_append.1 hu with hu | hu
    · exact dgV_one _ u hu
    · simp at hu
      rcases hu with rfl | rfl | rfl | rfl | rfl | rfl | rfl | rfl | rfl <;> rfl
/-- The cells of a store. -/
structure StP where
  rn : Nat
  on : Nat
  g0 : Int
  g1 : Int
  g2 : Int
  super : ByteArray
  j0 : Option Addr
  t0 : Option Addr
  j1 : Option Addr
  t1 : Option Addr
  is : RgV
  next : RgV
  failed : Int
def stC (x : StP) : List Value := [pt x.rn, pt x.on, .int .i64 x.g0, .int .i64 x.g1, .int .i64 x.g2, .string x.super, .pointer x.j0, .pointer x.t0, .pointer x.j1, .pointer x.t1] ++ (regC x.is ++ (regC x.next ++ [.int .i64 x.failed]))
abbrev stB (n : Nat) (x : StP) : Blk := ⟨n, .row (stC x) 114⟩
abbrev rgB (n : Nat) (x : RgV) : Blk := ⟨n, .row (regC x) 34⟩
theorem stC_len (x : StP) : (stC x).length = 157 := by unfold stC; simp [regC_len]
section
variable {x : StP} {y : RgV}
theorem stC_0 : (stC x)[0]? = some (pt x.rn) := rfl
theorem stC_1 : (stC x)[1]? = some (pt x.on) := rfl
theorem stC_5 : (stC x)[5]? = some (.string x.super) := rfl
theorem stC_6 : (stC x)[6]? = some (.pointer x.j0) := rfl
theorem stC_7 : (stC x)[7]? = some (.pointer x.t0) := rfl
theorem stC_8 : (stC x)[8]? = some (.pointer x.j1) := rfl
theorem stC_9 : (stC x)[9]? = some (.pointer x.t1) := rfl
theorem stC_g : ((stC x).drop 2).take 3 = [.int .i64 x.g0, .int .i64 x.g1, .int .i64 x.g2] := rfl
theorem stC_at : (stC x)[82]? = some (.bool x.is.at_) := rfl
theorem stC_iv : (stC x)[75]? = some (.int .i64 x.is.iv) := rfl
theorem stC_f : (stC x)[156]? = some (.int .i64 x.failed) := rfl
theorem stC_is : ((stC x).drop 10).take (regC x.is).length = regC x.is := rfl
theorem stC_nx : ((stC x).drop 83).take (regC x.next).length = regC x.next := rfl
theorem stC_s6 {v : Option Addr} : (stC x).set 6 (.pointer v) = stC { x with j0 := v } := rfl
theorem stC_s7 {v : Option Addr} : (stC x).set 7 (.pointer v) = stC { x with t0 := v } := rfl
theorem stC_s8 {v : Option Addr} : (stC x).set 8 (.pointer v) = stC { x with j1 := v } := rfl
theorem stC_s9 {v : Option Addr} : (stC x).set 9 (.pointer v) = stC { x with t1 := v } := rfl
theorem stC_sn {v : Int} : (stC x).set 148 (.int .i64 v) = stC { x with next := { x.next with iv := v } } := rfl
theorem stC_sf {v : Int} : (stC x).set 156 (.int .i64 v) = stC { x with failed := v } := rfl
theorem stC_sis : (stC x).take 10 ++ regC y ++ (stC x).drop (10 + (regC y).length) = stC { x with is := y } := rfl
theorem stC_snx : (stC x).take 83 ++ regC y ++ (stC x).drop (83 + (regC y).length) = stC { x with next := y } := rfl
theorem regC_s0 {b : Dg} : (regC y).take 0 ++ dgV b ++ (regC y).drop (0 + (dgV b).length) = regC { y with a0 := b } := rfl
theorem regC_s1 {b : Dg} : (regC y).take 32 ++ dgV b ++ (regC y).drop (32 + (dgV b).length) = regC { y with a1 := b } := rfl
theorem regC_s66 {v : Int} : (regC y).set 66 (.int .i64 v) = regC { y with ar0 := v } := rfl
theorem regC_s67 {v : Int} : (regC y).set 67 (.int .i64 v) = regC { y with ar1 := v } := rfl
theorem regC_s68 {v : Int} : (regC y).set 68 (.int .i64 v) = regC { y with u0 := v } := rfl
theorem regC_s69 {v : Int} : (regC y).set 69 (.int .i64 v) = regC { y with u1 := v } := rfl
theorem regC_si {v : Int} : (regC y).set 65 (.int .i64 v) = regC { y with iv := v } := rfl
end
section
variable {P : Program} {M : List Blk} {n : Nat} {x : StP} {T : TypeId} {f : Blk → List Blk} {k : List Blk → Prop} [z : Zip M n (.row (stC x) T) f]
theorem st_6 {v : Option Addr} (hk : k (f ⟨n, .row (stC { x with j0 := v }) T⟩)) : StN P M n 6 [.pointer v] k := st_row rfl (by rw [stC_len]; omega) (by rw [stC_s6]; exact hk)
theorem st_7 {v : Option Addr} (hk : k (f ⟨n, .row (stC { x with t0 := v }) T⟩)) : StN P M n 7 [.pointer v] k := st_row rfl (by rw [stC_len]; omega) (by rw [stC_s7]; exact hk)
theorem st_8 {v : Option Addr} (hk : k (f ⟨n, .row (stC { x with j1 := v }) T⟩)) : StN P M n 8 [.pointer v] k := st_row rfl (by rw [stC_len]; omega) (by rw [stC_s8]; exact hk)
theorem st_9 {v : Option Addr} (hk : k (f ⟨n, .row (stC { x with t1 := v }) T⟩)) : StN P M n 9 [.pointer v] k := st_row rfl (by rw [stC_len]; omega) (by rw [stC_s9]; exact hk)
theorem st_f {v : Int} (hk : k (f ⟨n, .row (stC { x with failed := v }) T⟩)) : StN P M n 156 [.int .i64 v] k := st_row rfl (by rw [stC_len]; omega) (by rw [stC_sf]; exact hk)
theorem st_ni {v : Int} (hk : k (f ⟨n, .row (stC { x with next := { x.next with iv := v } }) T⟩)) : StN P M n 148 [.int .i64 v] k := st_row rfl (by rw [stC_len]; omega) (by rw [stC_sn]; exact hk)
theorem st_is {y : RgV} (hk : k (f ⟨n, .row (stC { x with is := y }) T⟩)) : StN P M n 10 (regC y) k := st_rowN (regC_one y) (by rw [stC_len, regC_len]; omega) (by rw [stC_sis]; exact hk)
theorem st_nx {y : RgV} (hk : k (f ⟨n, .row (stC { x with next := y }) T⟩)) : StN P M n 83 (regC y) k := st_rowN (regC_one y) (by rw [stC_len, regC_len]; omega) (by rw [stC_snx]; exact hk)
end
section
variable {P : Program} {M : List Blk} {n : Nat} {y : RgV} {T : TypeId} {f : Blk → List Blk} {k : List Blk → Prop} [z : Zip M n (.row (regC y) T) f]
theorem st_ra0 {b : Dg} (hk : k (f ⟨n, .row (regC { y with a0 := b }) T⟩)) : StN P M n 0 (dgV b) k := st_rowN (dgV_one b) (by rw [regC_len, dgV_len]; omega) (by rw [regC_s0]; exact hk)
theorem st_ra1 {b : Dg} (hk : k (f ⟨n, .row (regC { y with a1 := b }) T⟩)) : StN P M n 32 (dgV b) k := st_rowN (dgV_one b) (by rw [regC_len, dgV_len]; omega) (by rw [regC_s1]; exact hk)
theorem st_r66 {v : Int} (hk : k (f ⟨n, .row (regC { y with ar0 := v }) T⟩)) : StN P M n 66 [.int .i64 v] k := st_row rfl (by rw [regC_len]; omega) (by rw [regC_s66]; exact hk)
theorem st_r67 {v : Int} (hk : k (f ⟨n, .row (regC { y with ar1 := v }) T⟩)) : StN P M n 67 [.int .i64 v] k := st_row rfl (by rw [regC_len]; omega) (by rw [regC_s67]; exact hk)
theorem st_r68 {v : Int} (hk : k (f ⟨n, .row (regC { y with u0 := v }) T⟩)) : StN P M n 68 [.int .i64 v] k := st_row rfl (by rw [regC_len]; omega) (by rw [regC_s68]; exact hk)
theorem st_r69 {v : Int} (hk : k (f ⟨n, .row (regC { y with u1 := v }) T⟩)) : StN P M n 69 [.int .i64 v] k := st_row rfl (by rw [regC_len]; omega) (by rw [regC_s69]; exact hk)
theorem st_riv {v : Int} (hk : k (f ⟨n, .row (regC { y with iv := v }) T⟩)) : StN P M n 65 [.int .i64 v] k := st_row rfl (by rw [regC_len]; omega) (by rw [regC_si]; exact hk)
end
attribute [local irreducible] dgV D jC wrF rcC stC regC
theorem must_ok : Fnc Tryz.prog 59 [.int .i64 0] [] (Ret (.tuple #[]) []) := by
  refine fn_intro Tryz.func59 (by kernel_rfl) ?_
  repeat' ((conv => whnf); first
      | (refine ifs (fun h => ?_) (fun h => ?_) <;> (try (exfalso; first | omega | with_reducible contradiction | with_reducible exact h rfl))))
  all_goals (conv => whnf)
  all_goals exact fin_nil ⟨rfl, rfl⟩
theorem must_no (c : Int) (hc : c ≠ 0) : Fnc Tryz.prog 59 [.int .i64 c] [] (fun e A => e = .panicked (pe c) ∧ A = []) := by
  refine fn_intro Tryz.func59 (by kernel_rfl) ?_
  repeat' ((conv => whnf); first
      | (refine ifs (fun h => ?_) (fun h => ?_) <;> (try (exfalso; first | omega | with_reducible contradiction | with_reducible exact h rfl))))
  all_goals (conv => whnf)
  all_goals exact fin_nil ⟨rfl, rfl⟩
theorem devices_ (sn : Nat) (x : StP) (h : x.is.at_ = true) : Fnc Tryz.prog 93 [pt sn] [stB sn x] (fun e A => ∃ n, e = .returned (.slice (some ⟨n, 0, none⟩) 2 2) ∧ A = [stB sn x, ⟨n, .cells [.int .i64 0, .int .i64 1] 3⟩]) := by
  have hat := stC_at (x := x)
  rw [h] at hat
  refine fn_intro Tryz.func93 (by kernel_rfl) ?_
  repeat' ((conv => whnf); first
      | refine ld1_row hat ?_
      | refine nw (fun n => ?_)
      | refine bld ?_)
  all_goals (conv => whnf)
  all_goals exact fin_pick (A' := [stB sn x, ⟨n, _⟩]) (.cons takeC (.cons takeC .nil)) ⟨n, rfl, rfl⟩
def flF (r : RigP) (d : Int) : RigP := (ticked r).setDev d (Rig.flushD ((ticked r).dev d))
def srF (r : RigP) (s : ByteArray) : RigP := { ticked r with reg := s }
theorem fine_fl {r : RigP} (h : Fine r) (d : Int) : Fine (flF r d) := (h.ticked).setDev _ _
theorem fine_sr {r : RigP} (h : Fine r) (s : ByteArray) : Fine (srF r s) := ⟨h.down, h.arm, h.fault, h.later⟩
theorem flushF (x : Rg) (d : Int) (h : Fine x.r) (hd : d = 0 ∨ d = 1) : Fnc Tryz.prog 162 [pt x.a.rn, .int .i64 d] (rgM x) (Ret (.int .i64 0) (rgM ⟨x.a, flF x.r d⟩)) := by
  have := Rig.flush_ x d
  rw [show flushR x.r d = (flF x.r d, 0) by unfold flushR; rw [mayE_ok hd (by omega) (by omega), if_neg (by simp), h.tick]; rfl] at this
  exact this
theorem setregF (x : Rg) (s : ByteArray) (h : Fine x.r) (hs : s.size = 96) : Fnc Tryz.prog 164 [pt x.a.rn, .string s] (rgM x) (Ret (.int .i64 0) (rgM ⟨x.a, srF x.r s⟩)) := by
  have := Rig.setreg_ x s
  rw [show setRegR x.r s = (srF x.r s, 0) by unfold setRegR; rw [if_neg (by simp [hs]), h.tick]; rfl] at this
  exact this
attribute [local irreducible] flF srF
/-- A register that may be. -/
def RgV.ok (x : RgV) : Prop := Reg.RR x.a1 x.ep x.iv x.ar0 x.ar1 x.u0 x.u1 x.dirty x.mode x.at_
def RgV.lay (x : RgV) : ByteArray := str (Reg.layL x.a0 x.a1 x.ep x.iv x.ar0 x.ar1 x.u0 x.u1 x.dirty x.mode x.at_)
theorem lay_size (x : RgV) : x.lay.size = 96 := by unfold RgV.lay; rw [Ev.str_size, Reg.layL_length]
theorem rput (x : RgV) (h : x.ok) : Fnc Tryz.prog 163 [.agg (regC x).toArray] [] (Ret (.tuple #[.string x.lay, .int .i64 0]) []) := by
  rw [regC_L]; exact Reg.put_t x.a0 h
attribute [local irreducible] RgV.lay
theorem set_ (g : Rg) (sn : Nat) (x : StP) (y : RgV) (hf : Fine g.r) (hrn : x.rn = g.a.rn) (hy : y.ok) :
    Fnc Tryz.prog 96 [pt sn, .agg (regC y).toArray] (rgM g ++ [stB sn x]) (Ret (.tuple #[]) (rgM ⟨g.a, srF g.r y.lay⟩ ++ [stB sn { x with is := y }])) := by
  have hp := rput y hy
  have hs := setregF g y.lay hf (lay_size y)
  rw [← hrn] at hs
  refine fn_intro Tryz.func96 (by kernel_rfl) ?_
  repeat' ((conv => whnf); first
      | refine force_of ?_
      | refine nw_row (cs' := regC y) rfl (fun n => ?_)
      | refine ldN_whole (regC_len _) ?_
      | refine call_val hp ?_
      | refine call_val must_ok ?_
      | refine ld1_row (n := sn) stC_0 ?_
      | refine call_gr hs (.one takeG) ?_
      | (refine need ?_ ?_; exact regC_len _)
      | refine st_is ?_)
  all_goals (conv => whnf)
  all_goals exact fin_g (A := rgM _ ++ [stB sn _]) (.grp takeG (.blk takeC .nil)) ⟨rfl, rfl⟩
abbrev two (n : Nat) : Blk := ⟨n, .cells [.int .i64 0, .int .i64 1] 3⟩
theorem flush2 (g : Rg) (sn ln : Nat) (x : StP) (hf : Fine g.r) (hrn : x.rn = g.a.rn) :
    Fnc Tryz.prog 95 [pt sn, .slice (some ⟨ln, 0, none⟩) 2 2] (rgM g ++ [stB sn x, two ln]) (Ret (.tuple #[]) (rgM ⟨g.a, flF (flF g.r 0) 1⟩ ++ [stB sn x, two ln])) := by
  have h0 := flushF g 0 hf (.inl rfl)
  have h1 := flushF ⟨g.a, flF g.r 0⟩ 1 (fine_fl hf 0) (.inr rfl)
  rw [← hrn] at h0
  rw [show (⟨g.a, flF g.r 0⟩ : Rg).a.rn = x.rn from hrn.symm] at h1
  refine fn_intro Tryz.func95 (by kernel_rfl) ?_
  repeat' ((conv => whnf); first
      | refine loop_n 3 ?_
      | refine ld1_row (n := sn) stC_0 ?_
      | refine nv_eq (a := 0) rfl ?_
      | refine nv_eq (a := 1) rfl ?_
      | refine call_val must_ok ?_
      | refine call_gr h0 (.one takeG) ?_
      | refine call_gr h1 (.one takeG) ?_
      | refine ld1_lit ?_
      | refine need (by first | rfl | omega) ?_
      | (refine wr (fun z hz => ?_); (try rw [Int.tdiv_eq_ediv_of_nonneg (by omega)] at hz); rw [w64 (by omega) (by omega)] at hz; subst hz)
      | (refine ifs (fun h => ?_) (fun h => ?_) <;> (try (exfalso; first | omega | with_reducible contradiction | with_reducible exact h rfl))))
  all_goals (conv => whnf)
  all_goals exact fin_g (A := rgM _ ++ [stB sn _, two ln]) (.grp takeG (.blk takeC (.blk takeC .nil))) ⟨rfl, rfl⟩
/-- What a device's part becomes. -/
def StP.setJ (x : StP) (d : Nat) (v : Option Addr) : StP := if d = 0 then { x with j0 := v } else { x with j1 := v }
def StP.setT (x : StP) (d : Nat) (v : Option Addr) : StP := if d = 0 then { x with t0 := v } else { x with t1 := v }
theorem plant_ (sn : Nat) (x : StP) (d : Nat) (root : Dg) (hd : d ≤ 1) :
    Fnc Tryz.prog 147 [pt sn, .int .i64 d, .agg (dgV root).toArray] [stB sn x]
      (fun e A => ∃ (tn : Nat) (a : Tree.TreA), a.rn = x.rn ∧ a.on = x.on ∧ e = .returned (.tuple #[]) ∧ A = Tree.treM tn ⟨a, ⟨d, root, [], []⟩⟩ ++ [stB sn (x.setT d (some ⟨tn, 0, none⟩))]) := by
  have ht := Tree.tnew x.rn x.on d root (by omega)
  have hdd : d = 0 ∨ d = 1 := by omega
  rcases hdd with rfl | rfl
  all_goals
    refine fn_intro Tryz.func147 (by kernel_rfl) ?_
    repeat' ((conv => whnf); first
        | refine force_of ?_
        | refine nw_dg (fun n => ?_)
        | refine draw_any 1 [(0, true), (1, true), (2, true), (4, true), (5, true), (6, true), (8, true), (3, true), (7, true), (9, false), (10, false), (11, true), (12, true), (13, true), (14, true), (15, true)] [⟨sn, _⟩] rfl (by kernel_rfl) (kept_of (.cons takeC .nil) ?_)
        | refine kept_of (.cons takeC .nil) ?_
        | refine fld1_row (n := sn) stC_0 ?_
        | refine fld1_row (n := sn) stC_1 ?_
        | refine ldN_dg rfl ?_
        | (refine call_g ht .nil (fun e A' hq => ?_); obtain ⟨tn, a, h1, h2, h3, h4⟩ := hq; subst h3; subst h4)
        | refine call_val must_ok ?_
        | refine nv_eq (a := 6) rfl ?_
        | refine nv_eq (a := 8) rfl ?_
        | refine st_7 ?_
        | refine st_9 ?_
        | refine need (by first | rfl | omega) ?_)
    all_goals (conv => whnf)
    all_goals exact fin_g (A := Tree.treM tn _ ++ [stB sn _]) (.grp takeG (.blk takeC .nil)) ⟨tn, a, h1, h2, rfl, rfl⟩
set_option maxHeartbeats 2000000 in
theorem begin_ (g : Rg) (o : Orc) (sn xn : Nat) (x : StP) (y : RgV) (d area : Nat) (seq : Int) (root : Dg) (hf : Fine g.r) (hrn : x.rn = g.a.rn) (hon : x.on = o.on) (hd : d ≤ 1) (ha : area ≤ 1) (hs : x.super.size = 64) (hq : seqOk seq) (hb : o.ts.length ≤ 1099511627000) :
    Fnc Tryz.prog 161 [pt sn, pt xn, .int .i64 d, .int .i64 area, .agg (rcC seq root).toArray] (rgM g ++ (orcM o ++ [stB sn x, rgB xn y]))
      (fun e A => ∃ (jn : Nat) (o' : Orc), o'.on = o.on ∧ o'.ts = addT (addT o.ts (startS x.super d area)) (nextS (D (startS x.super d area)) (recB seq root)) ∧ e = .returned (.tuple #[]) ∧
        A = rgM ⟨g.a, wrF g.r d (1 + 80 * area) (recB seq root)⟩ ++ (orcM o' ++ [jB jn g.a.rn o.on (addJ (jr0 x.super d area (D (startS x.super d area))) seq root (recB seq root)), stB sn (x.setJ d (some ⟨jn, 0, none⟩)), rgB xn (y.set d (D (nextS (D (startS x.super d area)) (recB seq root))) area 1)])) := by
  have hj := jbegin g o x.super d area seq root hf hd ha hs hq hb
  rw [← hrn, ← hon] at hj
  have hdd : d = 0 ∨ d = 1 := by omega
  obtain ⟨jx, ejx⟩ : ∃ jx, jx = addJ (jr0 x.super d area (D (startS x.super d area))) seq root (recB seq root) := ⟨_, rfl⟩
  have ex : jx.anchor = D (nextS (D (startS x.super d area)) (recB seq root)) := by rw [ejx]; rfl
  have eu : jx.used = 1 := by rw [ejx]; rfl
  rw [← ejx] at hj ⊢
  rw [← ex]
  have h1 := fun jn => janchor jn x.rn x.on jx
  have h2 := fun jn => jused jn x.rn x.on jx
  rw [eu] at h2
  rw [← hrn, ← hon]
  rcases hdd with rfl | rfl
  all_goals
    refine fn_intro Tryz.func161 (by kernel_rfl) ?_
    repeat' ((conv => whnf); first
        | refine force_of ?_
        | refine nw_row (cs' := rcC seq root) rfl (fun n => ?_)
        | refine draw_any 1 [(0, true), (1, true), (2, true), (4, true), (5, true), (6, true), (8, true), (9, true), (10, true), (12, true), (13, true), (3, true), (7, true), (11, true), (14, true), (15, false), (16, false), (17, true), (18, true), (19, true), (20, true), (21, true)] [⟨sn, _⟩] rfl (by kernel_rfl) (kept_of (.cons takeC .nil) ?_)
        | refine kept_of (.cons takeC .nil) ?_
        | refine fld1_row (n := sn) stC_0 ?_
        | refine fld1_row (n := sn) stC_1 ?_
        | refine fld1_row (n := sn) stC_5 ?_
        | refine ldN_whole (n := n) (rcC_len _ _) ?_
        | (refine call_g hj (.grp takeG (.one takeG)) (fun e A' hq => ?_); obtain ⟨jn, o1, a1, a2, a3, a4⟩ := hq; subst a3; subst a4)
        | refine call_val must_ok ?_
        | refine nv_eq (a := 6) rfl ?_
        | refine nv_eq (a := 8) rfl ?_
        | refine st_6 ?_
        | refine st_8 ?_
        | refine draw_any 4 [(0, true), (1, true), (2, true), (3, true), (4, true), (5, true), (6, true), (8, true), (9, true), (11, true), (12, true), (15, true), (16, true), (19, true), (20, true), (7, false), (10, false), (13, true), (14, false), (17, true), (18, false), (21, true), (22, false)] [] rfl (by kernel_rfl) ?_
        | refine kept_nil ?_
        | refine call_gr (h1 jn) (.blk takeC .nil) ?_
        | refine call_gr (h2 jn) (.blk takeC .nil) ?_
        | refine nv_eq (a := 0) rfl ?_
        | refine nv_eq (a := 32) rfl ?_
        | refine nv_eq (a := 66) rfl ?_
        | refine nv_eq (a := 67) rfl ?_
        | refine nv_eq (a := 68) rfl ?_
        | refine nv_eq (a := 69) rfl ?_
        | (refine need ?_ ?_; exact dgV_len _)
        | refine st_ra0 ?_
        | refine st_ra1 ?_
        | refine st_r66 ?_
        | refine st_r67 ?_
        | refine st_r68 ?_
        | refine st_r69 ?_
        | refine bld ?_
        | refine need (by first | rfl | omega) ?_)
    all_goals (conv => whnf)
    all_goals exact fin_g (A := rgM _ ++ (orcM o1 ++ [jB jn x.rn x.on jx, stB sn _, rgB xn _])) (.grp takeG (.grp takeG (.blk takeC (.blk takeC (.blk takeC .nil))))) ⟨jn, o1, a1, a2, rfl, rfl⟩
end Go.Proofs.YtkjamonkohpcnaaGreat.Sto
/- A store: laid anew. -/
namespace Go.Proofs.YtkjamonkohpcnaaGreat.Sto
open Go Ev Sha Aes Orc Node Rec Chn Jrn Cau
open Rig (RigP Rg rgM readR writeR flushR setRegR z64 app_of tick comes write_ mayE RigA)
set_option linter.unusedVariables false
set_option linter.unusedSimpArgs false
set_option maxRecDepth 100000
theorem st_rgl {P : Program} {M : List Blk} {n : Nat} {y y' : RgV} {vs : List Value} {T : TypeId} {f : Blk → List Blk} {k : List Blk → Prop} [z : Zip M n (.row (regC y) T) f] (hv : vs = regC y') (hk : k (f ⟨n, .row (regC y') T⟩)) : StN P M n 0 vs k := by
  subst hv; exact st_whole (regC_one y') (by rw [regC_len, regC_len]) hk
noncomputable def layN (r : RigP) (d : Nat) : Nat → RigP
  | 0 => r
  | k + 1 => wrF (layN r d k) d (161 + k) (bare (high k)).1
noncomputable def layNT (ts : List ByteArray) : Nat → List ByteArray
  | 0 => ts
  | k + 1 => BareT (layNT ts k) (high k)
noncomputable def layL (r : RigP) (d : Nat) : Nat → RigP
  | 0 => r
  | k + 1 => wrF (layL r d k) d (224 + k) (bare 0).1
noncomputable def layLT (ts : List ByteArray) : Nat → List ByteArray
  | 0 => ts
  | k + 1 => BareT (layLT ts k) 0
noncomputable def layR (r : RigP) (d : Nat) : RigP := layL (layN r d 63) d 64
noncomputable def layT (ts : List ByteArray) : List ByteArray := layLT (layNT ts 63) 64
theorem high_le (n : Nat) : high n ≤ 6 := by unfold high; omega
theorem fine_N {r : RigP} (h : Fine r) (d : Nat) : ∀ k, Fine (layN r d k)
  | 0 => h
  | k + 1 => (fine_N h d k).wrF _ _ _
theorem fine_L {r : RigP} (h : Fine r) (d : Nat) : ∀ k, Fine (layL r d k)
  | 0 => h
  | k + 1 => (fine_L h d k).wrF _ _ _
theorem fine_lay {r : RigP} (h : Fine r) (d : Nat) : Fine (layR r d) := fine_L (fine_N h d 63) d 64
theorem layNT_len (ts : List ByteArray) : ∀ k, (layNT ts k).length ≤ ts.length + 9 * k
  | 0 => by show ts.length ≤ _; omega
  | k + 1 => by
    have := BareT_len (layNT ts k) (high k)
    have ih := layNT_len ts k
    have hh := high_le k
    show (BareT (layNT ts k) (high k)).length ≤ _
    omega
theorem layLT_len (ts : List ByteArray) : ∀ k, (layLT ts k).length ≤ ts.length + 3 * k
  | 0 => by show ts.length ≤ _; omega
  | k + 1 => by
    have := BareT_len (layLT ts k) 0
    have ih := layLT_len ts k
    show (BareT (layLT ts k) 0).length ≤ _
    omega
theorem layT_len (ts : List ByteArray) : (layT ts).length ≤ ts.length + 1000 := by
  unfold layT
  have h1 := layNT_len ts 63
  have h2 := layLT_len (layNT ts 63) 64
  omega
theorem layN_s (r : RigP) (d k : Nat) : layN r d (k + 1) = wrF (layN r d k) d (161 + k) (bare (high k)).1 := rfl
theorem layL_s (r : RigP) (d k : Nat) : layL r d (k + 1) = wrF (layL r d k) d (224 + k) (bare 0).1 := rfl
theorem layNT_s (ts : List ByteArray) (k : Nat) : layNT ts (k + 1) = BareT (layNT ts k) (high k) := rfl
theorem layLT_s (ts : List ByteArray) (k : Nat) : layLT ts (k + 1) = BareT (layLT ts k) 0 := rfl
def rz : List Value := .int .i64 0 :: (List.replicate 32 (.int .u8 0) ++ [.slice none 0 0])
theorem setJ_rn (x : StP) (d : Nat) (v : Option Addr) : (x.setJ d v).rn = x.rn ∧ (x.setJ d v).on = x.on := by unfold StP.setJ; split <;> exact ⟨rfl, rfl⟩
theorem rz_e (b : Dg) : rz.take 1 ++ dgV b ++ rz.drop (1 + 32) = rcC 0 b := rfl
def rg1 : RgV := ⟨zD, zD, 1, 0, 0, 0, 0, 0, 0, 0, true⟩
def rgT : RgV := ⟨zD, zD, 0, 0, 0, 0, 0, 0, 0, 0, true⟩
def rg0 : RgV := ⟨zD, zD, 0, 0, 0, 0, 0, 0, 0, 0, false⟩
theorem rg0_e : regC rg0 = List.replicate 64 (Value.int .u8 0) ++ [.int .i64 0, .int .i64 0, .int .i64 0, .int .i64 0, .int .i64 0, .int .i64 0, .int .i64 0, .int .i64 0, .bool false] := rfl
theorem rg1_e : regC rg1 = List.replicate 64 (Value.int .u8 0) ++ [.int .i64 1, .int .i64 0, .int .i64 0, .int .i64 0, .int .i64 0, .int .i64 0, .int .i64 0, .int .i64 0, .bool true] := rfl
attribute [local irreducible] dgV D jC wrF rcC stC regC flF srF layN layL layNT layLT bare BareT
set_option maxHeartbeats 4000000 in
theorem lay_ (g : Rg) (o : Orc) (sn : Nat) (x : StP) (d : Nat) (hf : Fine g.r) (hrn : x.rn = g.a.rn) (hon : x.on = o.on) (hd : d ≤ 1) (hb : o.ts.length ≤ 1099511620000) :
    Fnc Tryz.prog 159 [pt sn, .int .i64 d] (rgM g ++ (orcM o ++ [stB sn x]))
      (RetO o (layT o.ts) (fun o' => rgM ⟨g.a, layR g.r d⟩ ++ (orcM o' ++ [stB sn x])) (.tuple #[])) := by
  have hw := fun (r : RigP) (i : Nat) (s : ByteArray) (h1 : Fine r) (h2 : i < 288) (h3 : s.size = 64) => writeF ⟨g.a, r⟩ d i s h1 (by omega) h2 h3
  simp only [← hrn] at hw
  refine fn_intro Tryz.func159 (by kernel_rfl) ?_
  repeat' ((conv => whnf); first
      | fail)
  all_goals (conv => whnf)
  refine loop_rule [18] (fun vs M m => ∃ (k : Nat) (q : Orc), vs = [.int .i64 k] ∧ k ≤ 63 ∧ q.on = o.on ∧ q.ts = layNT o.ts k ∧ m = 63 - k ∧ M = rgM ⟨g.a, layN g.r d k⟩ ++ (orcM q ++ [stB sn x])) rfl ?_ ?_
  · exact fin_all ⟨_, 0, o, rfl, by omega, rfl, by unfold layNT; rfl, rfl, by unfold layN; rfl⟩
  rintro vs junk M' m ⟨k, q, rfl, hk, hq1, hq2, rfl, rfl⟩
  by_cases hk6 : k < 63
  · have hl := layNT_len o.ts k
    have hB := Bare_ q (high k) (high_le k) (by rw [hq2]; omega)
    rw [hq1, ← hon, hq2] at hB
    have hH := high_ k hk6
    have hna := Tree.nodeAt_ok hk6
    have hww := hw (layN g.r d k) (161 + k) (bare (high k)).1 (fine_N hf d k) (by omega) (bare_size _)
    repeat' ((conv => whnf); first
        | refine call_val hH ?_
        | refine call_val hna ?_
        | refine call_val must_ok ?_
        | refine ld1_row (n := sn) stC_1 ?_
        | refine ld1_row (n := sn) stC_0 ?_
        | (refine call_go hB (.one takeG) (fun q2 b1 b2 => ?_))
        | refine nw_z (fun n => ?_)
        | refine force_of ?_
        | refine need (dgV_len _) ?_
        | refine st_dg ?_
        | refine call_gr hww (.one takeG) ?_
        | (refine wr (fun z hz => ?_); (try rw [Int.tdiv_eq_ediv_of_nonneg (by omega)] at hz); rw [w64 (by omega) (by omega)] at hz; subst hz)
        | (refine ifs (fun h => ?_) (fun h => ?_) <;> (try (exfalso; first | omega | with_reducible contradiction | with_reducible exact h rfl))))
    all_goals (conv => whnf)
    all_goals exact ⟨rfl, fin_g (A := rgM ⟨g.a, _⟩ ++ (orcM q2 ++ [stB sn x])) (.grp takeG (.grp takeG (.blk takeC .nil))) ⟨63 - (k + 1), by omega, k + 1, q2, rfl, by omega, by rw [b1, hq1], by rw [b2, layNT_s], rfl, by rw [layN_s]⟩⟩
  obtain rfl : k = 63 := by omega
  have hl0 := layNT_len o.ts 63
  repeat' ((conv => whnf); first
      | (refine ifs (fun h => ?_) (fun h => ?_) <;> (try (exfalso; first | omega | with_reducible contradiction | with_reducible exact h rfl))))
  all_goals (conv => whnf)
  refine loop_rule [51] (fun vs M m => ∃ (k : Nat) (q : Orc), vs = [.int .i64 k] ∧ k ≤ 64 ∧ q.on = o.on ∧ q.ts = layLT (layNT o.ts 63) k ∧ m = 64 - k ∧ M = rgM ⟨g.a, layL (layN g.r d 63) d k⟩ ++ (orcM q ++ [stB sn x])) rfl ?_ ?_
  · exact fin_all ⟨_, 0, q, rfl, by omega, hq1, by unfold layLT; exact hq2, rfl, by unfold layL; rfl⟩
  rintro vs junk2 M' m ⟨k, q3, rfl, hk, hq31, hq32, rfl, rfl⟩
  by_cases hk6 : k < 64
  · have hl := layLT_len (layNT o.ts 63) k
    have hB := Bare_ q3 0 (by omega) (by rw [hq32]; omega)
    rw [hq31, ← hon, hq32] at hB
    have hna := Tree.leafAt_ok hk6
    have hww := hw (layL (layN g.r d 63) d k) (224 + k) (bare 0).1 (fine_L (fine_N hf d 63) d k) (by omega) (bare_size _)
    repeat' ((conv => whnf); first
        | refine call_val hna ?_
        | refine call_val must_ok ?_
        | refine ld1_row (n := sn) stC_1 ?_
        | refine ld1_row (n := sn) stC_0 ?_
        | (refine call_go hB (.one takeG) (fun q2 b1 b2 => ?_))
        | refine nw_z (fun n => ?_)
        | refine force_of ?_
        | refine need (dgV_len _) ?_
        | refine st_dg ?_
        | refine call_gr hww (.one takeG) ?_
        | (refine wr (fun z hz => ?_); (try rw [Int.tdiv_eq_ediv_of_nonneg (by omega)] at hz); rw [w64 (by omega) (by omega)] at hz; subst hz)
        | (refine ifs (fun h => ?_) (fun h => ?_) <;> (try (exfalso; first | omega | with_reducible contradiction | with_reducible exact h rfl))))
    all_goals (conv => whnf)
    all_goals exact ⟨rfl, fin_g (A := rgM ⟨g.a, _⟩ ++ (orcM q2 ++ [stB sn x])) (.grp takeG (.grp takeG (.blk takeC .nil))) ⟨64 - (k + 1), by omega, k + 1, q2, rfl, by omega, by rw [b1, hq31], by rw [b2, layLT_s], rfl, by rw [layL_s]⟩⟩
  obtain rfl : k = 64 := by omega
  repeat' ((conv => whnf); first
      | (refine ifs (fun h => ?_) (fun h => ?_) <;> (try (exfalso; first | omega | with_reducible contradiction | with_reducible exact h rfl))))
  all_goals (conv => whnf)
  exact fin_all ⟨q3, hq31, hq32, rfl, rfl⟩
/-- The register when a device's journal is begun. -/
noncomputable def frD (super : ByteArray) (d area : Nat) : Dg := D (startS super d area)
noncomputable def frB : ByteArray := recB 0 (bare 6).2
noncomputable def frA (super : ByteArray) (d area : Nat) : Dg := D (nextS (frD super d area) frB)
noncomputable def frJ (super : ByteArray) (d area : Nat) : JrP := addJ (jr0 super d area (frD super d area)) 0 (bare 6).2 frB
noncomputable def frR (r : RigP) (d area : Nat) : RigP := wrF (layR r d) d (1 + 80 * area) frB
noncomputable def frT (ts : List ByteArray) (super : ByteArray) (d area : Nat) : List ByteArray := addT (addT (BareT (layT ts) 6) (startS super d area)) (nextS (frD super d area) frB)
theorem fine_fr {r : RigP} (h : Fine r) (d area : Nat) : Fine (frR r d area) := (fine_lay h d).wrF _ _ _
theorem frT_len (ts : List ByteArray) (super : ByteArray) (d area : Nat) : (frT ts super d area).length ≤ ts.length + 1011 := by
  unfold frT
  have h1 := layT_len ts
  have h2 := BareT_len (layT ts) 6
  have h3 := addT_len (BareT (layT ts) 6) (startS super d area)
  have h4 := addT_len (addT (BareT (layT ts) 6) (startS super d area)) (nextS (frD super d area) frB)
  omega
set_option maxHeartbeats 4000000 in
theorem fresh_ (g : Rg) (o : Orc) (sn xn : Nat) (x : StP) (y : RgV) (d area : Nat) (hf : Fine g.r) (hrn : x.rn = g.a.rn) (hon : x.on = o.on) (hd : d ≤ 1) (ha : area ≤ 1) (hs : x.super.size = 64) (hb : o.ts.length ≤ 1099511610000) :
    Fnc Tryz.prog 94 [pt sn, pt xn, .int .i64 d, .int .i64 area] (rgM g ++ (orcM o ++ [stB sn x, rgB xn y]))
      (fun e A => ∃ (jn tn : Nat) (a : Tree.TreA) (o' : Orc), a.rn = x.rn ∧ a.on = x.on ∧ o'.on = o.on ∧ o'.ts = frT o.ts x.super d area ∧ e = .returned (.tuple #[]) ∧
        A = rgM ⟨g.a, frR g.r d area⟩ ++ (orcM o' ++ (jB jn g.a.rn o.on (frJ x.super d area) :: (Tree.treM tn ⟨a, ⟨d, (bare 6).2, [], []⟩⟩ ++ [stB sn ((x.setJ d (some ⟨jn, 0, none⟩)).setT d (some ⟨tn, 0, none⟩)), rgB xn (y.set d (frA x.super d area) area 1)])))) := by
  have h1 := lay_ g o sn x d hf hrn hon hd (by omega)
  have hl := layT_len o.ts
  have hl2 := BareT_len (layT o.ts) 6
  have h2 : ∀ q : Orc, q.on = o.on → q.ts = layT o.ts → Fnc Tryz.prog 160 [pt x.on, .int .i64 6] (orcM q) (RetO q (BareT (layT o.ts) 6) orcM (.tuple #[.string (bare 6).1, .agg (dgV (bare 6).2).toArray, .int .i64 0])) := fun q e1 e2 => by
    have := Bare_ q 6 (by omega) (by rw [e2]; omega)
    rw [e1, e2, ← hon] at this
    exact this
  have h3 := fun (q : Orc) (e1 : q.on = o.on) (e2 : q.ts = BareT (layT o.ts) 6) => begin_ ⟨g.a, layR g.r d⟩ q sn xn x y d area 0 (bare 6).2 (fine_lay hf d) hrn (hon.trans e1.symm) hd ha hs (by unfold seqOk; omega) (by rw [e2]; omega)
  have h4 := fun jn => plant_ sn (x.setJ d jn) d (bare 6).2 hd
  refine fn_intro Tryz.func94 (by kernel_rfl) ?_
  repeat' ((conv => whnf); first
      | (refine call_go h1 (.grp takeG (.grp takeG (.blk takeC .nil))) (fun q1 a1 a2 => ?_))
      | (refine call_go (h2 q1 a1 a2) (.one takeG) (fun q2 b1 b2 => ?_))
      | refine ld1_row (n := sn) stC_1 ?_
      | refine nw_z (fun n => ?_)
      | refine force_of ?_
      | refine need (dgV_len _) ?_
      | refine st_dg ?_
      | refine ldN_dg rfl ?_
      | (refine bld_cons (vs := dgV (bare 6).2) (cs1 := rcC 0 (bare 6).2) rfl rfl (dgV_len _) (Nat.le_of_ble_eq_true rfl) (rz_e _) ?_; refine bld_nil ?_)
      | (refine call_g (h3 q2 (b1.trans a1) b2) (.grp takeG (.grp takeG (.blk takeC (.blk takeC .nil)))) (fun e A' hq => ?_); obtain ⟨jn, q3, c1, c2, c3, c4⟩ := hq; subst c3; subst c4)
      | (refine call_g (h4 _) (.blk takeC .nil) (fun e A' hq => ?_); obtain ⟨tn, a, d1, d2, d3, d4⟩ := hq; subst d3; subst d4))
  all_goals (conv => whnf)
  rw [b1.trans a1]
  exact fin_g (A := rgM ⟨g.a, _⟩ ++ (orcM q3 ++ (⟨jn, _⟩ :: (Tree.treM tn ⟨a, _⟩ ++ [stB sn _, rgB xn _])))) (.grp takeG (.grp takeG (.blk takeC (.grp takeG (.blk takeC (.blk takeC .nil)))))) ⟨jn, tn, a, q3, d1.trans (setJ_rn _ _ _).1, d2.trans (setJ_rn _ _ _).2, c1.trans (b1.trans a1), by rw [c2, b2]; rfl, rfl, rfl⟩
noncomputable def fmS (x : StP) (super : ByteArray) (jn0 tn0 jn1 tn1 : Nat) (y : RgV) : StP := { x with j0 := some ⟨jn0, 0, none⟩, t0 := some ⟨tn0, 0, none⟩, j1 := some ⟨jn1, 0, none⟩, t1 := some ⟨tn1, 0, none⟩, is := y }
noncomputable def fmV (super : ByteArray) : RgV := ⟨frA super 0 0, frA super 1 0, 1, 0, 0, 0, 1, 1, 0, 0, true⟩
theorem fmV_e (super : ByteArray) : (rg1.set 0 (frA super 0 0) 0 1).set 1 (frA super 1 0) 0 1 = fmV super := rfl
theorem fmV_ok (super : ByteArray) : (fmV super).ok := by
  constructor <;> first | exact Int.le_refl 0 | exact (by decide : (0 : Int) ≤ 1) | exact (by decide : (1 : Int) ≤ 4294967295) | exact (by decide : (0 : Int) ≤ 1099511627776) | exact (by decide : (0 : Int) ≤ 8) | exact (by decide : (0 : Int) ≤ 2) | exact (by decide : (0 : Int) ≤ 80) | exact (by decide : (1 : Int) ≤ 80) | exact .inl rfl | (intro h; cases h)
noncomputable def fmR (r : RigP) (super : ByteArray) : RigP := srF (flF (flF (frR (frR (wrF r 0 0 super) 0 0) 1 0) 0) 1) (fmV super).lay
noncomputable def fmT (ts : List ByteArray) (super : ByteArray) : List ByteArray := frT (frT ts super 0 0) super 1 0
theorem fine_fm {r : RigP} (h : Fine r) (super : ByteArray) : Fine (fmR r super) := fine_sr (fine_fl (fine_fl (fine_fr (fine_fr (h.wrF _ _ _) _ _) _ _) _) _) _
attribute [local irreducible] frR frT frA frJ fmV RgV.lay
def fmJ0 (x : StP) (jn tn : Nat) : StP := { x with j0 := some ⟨jn, 0, none⟩, t0 := some ⟨tn, 0, none⟩ }
def fmJ1 (x : StP) (jn tn : Nat) : StP := { x with j1 := some ⟨jn, 0, none⟩, t1 := some ⟨tn, 0, none⟩ }
set_option maxHeartbeats 4000000 in
theorem format1 (g : Rg) (o : Orc) (sn c4 c10 c12 : Nat) (x : StP) (hf : Fine g.r) (hrn : x.rn = g.a.rn) (hon : x.on = o.on) (hat : x.is.at_ = true) (hs : x.super.size = 64) (hb : o.ts.length ≤ 1099511600000) :
    Fnc Tryz.prog 91 [pt c4, pt c10, pt c12] (rgM g ++ (orcM o ++ [stB sn x, ⟨c4, .cells [pt g.a.rn] 35⟩, ⟨c10, .cells [.string x.super] 9⟩, ⟨c12, .cells [pt sn] 37⟩]))
      (fun e A => ∃ (jn0 tn0 jn1 tn1 : Nat) (a0 a1 : Tree.TreA) (o' : Orc), a0.rn = x.rn ∧ a0.on = x.on ∧ a1.rn = x.rn ∧ a1.on = x.on ∧ o'.on = o.on ∧ o'.ts = fmT o.ts x.super ∧ e = .returned (.tuple #[]) ∧
        A = rgM ⟨g.a, fmR g.r x.super⟩ ++ (orcM o' ++ (jB jn0 g.a.rn o.on (frJ x.super 0 0) :: (Tree.treM tn0 ⟨a0, ⟨0, (bare 6).2, [], []⟩⟩ ++ (jB jn1 g.a.rn o.on (frJ x.super 1 0) :: (Tree.treM tn1 ⟨a1, ⟨1, (bare 6).2, [], []⟩⟩ ++
          [stB sn (fmS x x.super jn0 tn0 jn1 tn1 (fmV x.super)), ⟨c4, .cells [pt g.a.rn] 35⟩, ⟨c10, .cells [.string x.super] 9⟩, ⟨c12, .cells [pt sn] 37⟩])))))) := by
  have h1 := writeF g 0 0 x.super hf (.inl rfl) (by omega) hs
  have h2 := devices_ sn x hat
  rw [show ((0 : Nat) : Int) = 0 from rfl] at h1
  have f0 : ∀ xn y, Fnc Tryz.prog 94 [pt sn, pt xn, .int .i64 0, .int .i64 0] (rgM ⟨g.a, wrF g.r 0 0 x.super⟩ ++ (orcM o ++ [stB sn x, rgB xn y])) (fun e A => ∃ (jn tn : Nat) (a : Tree.TreA) (o' : Orc), a.rn = x.rn ∧ a.on = x.on ∧ o'.on = o.on ∧ o'.ts = frT o.ts x.super 0 0 ∧ e = .returned (.tuple #[]) ∧
        A = rgM ⟨g.a, frR (wrF g.r 0 0 x.super) 0 0⟩ ++ (orcM o' ++ (jB jn g.a.rn o.on (frJ x.super 0 0) :: (Tree.treM tn ⟨a, ⟨0, (bare 6).2, [], []⟩⟩ ++ [stB sn (fmJ0 x jn tn), rgB xn (y.set 0 (frA x.super 0 0) 0 1)])))) := fun xn y => fresh_ ⟨g.a, wrF g.r 0 0 x.super⟩ o sn xn x y 0 0 (hf.wrF _ _ _) hrn hon (by omega) (by omega) hs (by omega)
  have f1 : ∀ (o1 : Orc) jn tn xn y, o1.on = o.on → o1.ts = frT o.ts x.super 0 0 → Fnc Tryz.prog 94 [pt sn, pt xn, .int .i64 1, .int .i64 0] (rgM ⟨g.a, frR (wrF g.r 0 0 x.super) 0 0⟩ ++ (orcM o1 ++ [stB sn (fmJ0 x jn tn), rgB xn y])) (fun e A => ∃ (jn' tn' : Nat) (a : Tree.TreA) (o' : Orc), a.rn = x.rn ∧ a.on = x.on ∧ o'.on = o.on ∧ o'.ts = fmT o.ts x.super ∧ e = .returned (.tuple #[]) ∧
        A = rgM ⟨g.a, frR (frR (wrF g.r 0 0 x.super) 0 0) 1 0⟩ ++ (orcM o' ++ (jB jn' g.a.rn o.on (frJ x.super 1 0) :: (Tree.treM tn' ⟨a, ⟨1, (bare 6).2, [], []⟩⟩ ++ [stB sn (fmJ1 (fmJ0 x jn tn) jn' tn'), rgB xn (y.set 1 (frA x.super 1 0) 0 1)])))) := fun o1 jn tn xn y e1 e2 => by
    have := fresh_ ⟨g.a, frR (wrF g.r 0 0 x.super) 0 0⟩ o1 sn xn (fmJ0 x jn tn) y 1 0 (fine_fr (hf.wrF _ _ _) _ _) hrn (hon.trans e1.symm) (by omega) (by omega) hs (by have := frT_len o.ts x.super 0 0; rw [e2]; omega)
    rw [e1, e2] at this
    exact this
  have h3 := fun jn tn jn' tn' => devices_ sn (fmJ1 (fmJ0 x jn tn) jn' tn') hat
  have h4 := fun ln jn tn jn' tn' => flush2 ⟨g.a, frR (frR (wrF g.r 0 0 x.super) 0 0) 1 0⟩ sn ln (fmJ1 (fmJ0 x jn tn) jn' tn') (fine_fr (fine_fr (hf.wrF _ _ _) _ _) _ _) hrn
  have h5 := fun jn tn jn' tn' => set_ ⟨g.a, flF (flF (frR (frR (wrF g.r 0 0 x.super) 0 0) 1 0) 0) 1⟩ sn (fmJ1 (fmJ0 x jn tn) jn' tn') (fmV x.super) (fine_fl (fine_fl (fine_fr (fine_fr (hf.wrF _ _ _) _ _) _ _) _) _) hrn (fmV_ok _)
  refine fn_intro Tryz.func91 (by kernel_rfl) ?_
  repeat' ((conv => whnf); first
      | refine nw_row (cs' := regC rg0) rg0_e (fun n => ?_)
      | refine st_rgl (y' := rg1) rg1_e.symm ?_
      | refine call_gr h1 (.one takeG) ?_
      | refine call_val must_ok ?_
      | (refine call_g h2 (.blk takeC .nil) (fun e A' hq => ?_); obtain ⟨ln, a1, a2⟩ := hq; subst a1; subst a2)
      | refine loop_n 3 ?_
      | refine nv_eq (a := 0) rfl ?_
      | refine nv_eq (a := 1) rfl ?_
      | refine draw_any 7 [(0, true), (1, false), (2, false), (3, false)] [⟨c12, _⟩] rfl (by kernel_rfl) (kept_of (.cons takeC .nil) ?_)
      | refine kept_of (.cons takeC .nil) ?_
      | refine fld1 ?_
      | (refine call_g (h3 _ _ _ _) (.blk takeC .nil) (fun e A' hq => ?_); obtain ⟨ln2, d1, d2⟩ := hq; subst d1; subst d2)
      | refine call_gr (h4 _ _ _ _ _) (.grp takeG (.blk takeC (.blk takeC .nil))) ?_
      | refine ldN_whole (regC_len _) ?_
      | (rw [fmV_e]; refine call_gr (h5 _ _ _ _) (.grp takeG (.blk takeC .nil)) ?_)
      | (refine call_g (f0 _ _) (.grp takeG (.grp takeG (.blk takeC (.blk takeC .nil)))) (fun e A' hq => ?_); obtain ⟨jn0, tn0, a0, o1, b1, b2, b3, b4, b5, b6⟩ := hq; subst b5; subst b6)
      | (refine call_g (f1 _ _ _ _ _ b3 b4) (.grp takeG (.grp takeG (.blk takeC (.blk takeC .nil)))) (fun e A' hq => ?_); obtain ⟨jn1, tn1, a1, o2, e1, e2, e3, e4, e5, e6⟩ := hq; subst e5; subst e6)
      | refine ld1_lit ?_
      | refine bld ?_
      | refine need (by first | rfl | omega) ?_
      | (refine wr (fun z hz => ?_); (try rw [Int.tdiv_eq_ediv_of_nonneg (by omega)] at hz); rw [w64 (by omega) (by omega)] at hz; subst hz)
      | (refine ifs (fun h => ?_) (fun h => ?_) <;> (try (exfalso; first | omega | with_reducible contradiction | with_reducible exact h rfl))))
  all_goals (conv => whnf)
  exact fin_g (A := rgM ⟨g.a, _⟩ ++ (orcM o2 ++ (⟨jn0, _⟩ :: (Tree.treM tn0 ⟨a0, _⟩ ++ (⟨jn1, _⟩ :: (Tree.treM tn1 ⟨a1, _⟩ ++ [stB sn _, ⟨c4, _⟩, ⟨c10, _⟩, ⟨c12, _⟩])))))) (.grp takeG (.grp takeG (.blk takeC (.grp takeG (.blk takeC (.grp takeG (.blk takeC (.blk takeC (.blk takeC (.blk takeC .nil)))))))))) ⟨jn0, tn0, jn1, tn1, a0, a1, o2, b1, b2, e1, e2, e3, e4, rfl, rfl⟩
end Go.Proofs.YtkjamonkohpcnaaGreat.Sto
/- A store made; how its calls run. -/
namespace Go.Proofs.YtkjamonkohpcnaaGreat.Sto
open Go Ev Sha Aes Orc Node Rec Chn Jrn Cau
open Rig (RigP Rg rgM readR writeR flushR setRegR z64 app_of tick comes write_ mayE RigA)
set_option linter.unusedVariables false
set_option linter.unusedSimpArgs false
set_option maxRecDepth 100000
structure StoA where
  sn : Nat
  jn0 : Nat
  jn1 : Nat
  tn0 : Nat
  tn1 : Nat
  a0 : Tree.TreA
  a1 : Tree.TreA
structure StoV where
  rn : Nat
  on : Nat
  g0 : Int
  g1 : Int
  g2 : Int
  super : ByteArray
  j0 : JrP
  j1 : JrP
  t0 : Tree.TreP
  t1 : Tree.TreP
  is : RgV
  next : RgV
  failed : Int
structure Sto where
  A : StoA
  V : StoV
def Sto.c (x : Sto) : StP := ⟨x.V.rn, x.V.on, x.V.g0, x.V.g1, x.V.g2, x.V.super, some ⟨x.A.jn0, 0, none⟩, some ⟨x.A.tn0, 0, none⟩, some ⟨x.A.jn1, 0, none⟩, some ⟨x.A.tn1, 0, none⟩, x.V.is, x.V.next, x.V.failed⟩
/-- What lies behind a store's own block. -/
def stoR (x : Sto) : List Blk := jB x.A.jn0 x.V.rn x.V.on x.V.j0 :: (jB x.A.jn1 x.V.rn x.V.on x.V.j1 :: (Tree.treM x.A.tn0 ⟨x.A.a0, x.V.t0⟩ ++ Tree.treM x.A.tn1 ⟨x.A.a1, x.V.t1⟩))
def stoM (x : Sto) : List Blk := stB x.A.sn x.c :: stoR x
structure SOk (x : Sto) (r o : Nat) : Prop where
  rn : x.V.rn = r
  on : x.V.on = o
  r0 : x.A.a0.rn = r
  o0 : x.A.a0.on = o
  r1 : x.A.a1.rn = r
  o1 : x.A.a1.on = o
noncomputable def fmV0 (rn on : Nat) (g0 g1 g2 : Int) (super : ByteArray) : StoV :=
  ⟨rn, on, g0, g1, g2, super, frJ super 0 0, frJ super 1 0, ⟨0, (bare 6).2, [], []⟩, ⟨1, (bare 6).2, [], []⟩, fmV super, fmV super, 0⟩
def sz (rn on : Nat) (g0 g1 g2 : Int) (super : ByteArray) : List Value := [pt rn, pt on, .int .i64 g0, .int .i64 g1, .int .i64 g2, .string super, .pointer none, .pointer none, .pointer none, .pointer none] ++
  (List.replicate 64 (Value.int .u8 0) ++ [.int .i64 0, .int .i64 0, .int .i64 0, .int .i64 0, .int .i64 0, .int .i64 0, .int .i64 0, .int .i64 0, .bool false] ++ (List.replicate 64 (Value.int .u8 0) ++ [.int .i64 0, .int .i64 0, .int .i64 0, .int .i64 0, .int .i64 0, .int .i64 0, .int .i64 0, .int .i64 0, .bool false] ++ [.int .i64 0]))
def st0 (rn on : Nat) (g0 g1 g2 : Int) (super : ByteArray) : StP := ⟨rn, on, g0, g1, g2, super, none, none, none, none, rgT, rg0, 0⟩
theorem st0_e (rn on : Nat) (g0 g1 g2 : Int) (super : ByteArray) : (sz rn on g0 g1 g2 super).take 10 ++ regC rgT ++ (sz rn on g0 g1 g2 super).drop (10 + 73) = stC (st0 rn on g0 g1 g2 super) := rfl
def zz : List Value := List.replicate 64 (Value.int .u8 0) ++ [.int .i64 0, .int .i64 0, .int .i64 0, .int .i64 0, .int .i64 0, .int .i64 0, .int .i64 0, .int .i64 0, .bool false]
theorem rgT_b : zz.take 72 ++ [Value.bool true] ++ zz.drop (72 + 1) = regC rgT := rfl
attribute [local irreducible] dgV D jC wrF rcC stC regC flF srF bare BareT frR frT frA frJ fmV RgV.lay fmR fmT
theorem caught_ret {f : FuncId} {cs : List Value} {A : List Blk} {v : Value} {Q : List Blk → Prop} (hg : Fnc Tryz.prog f (([] ++ []) ++ cs) A (fun e M => Q M ∧ e = .returned v)) :
    Fnc Tryz.prog 90 [.func (.func f) #[] cs.toArray] A (fun e M => Q M ∧ e = .returned (.int .i64 0)) := by
  refine Fnc_mono (caught_ f [] cs A (fun q M => q = none ∧ Q M) (Fnc_mono hg ?_)) ?_
  · rintro e M ⟨h1, h2⟩
    exact ⟨none, ⟨rfl, h1⟩, _, h2⟩
  · rintro e M ⟨q, ⟨rfl, h1⟩, he⟩
    exact ⟨h1, he⟩
/-- What Format's closure leaves. -/
def fmP (g : Rg) (o : Orc) (sn c4 c10 c12 : Nat) (x : StP) (M : List Blk) : Prop :=
  ∃ (jn0 tn0 jn1 tn1 : Nat) (a0 a1 : Tree.TreA) (o' : Orc), a0.rn = x.rn ∧ a0.on = x.on ∧ a1.rn = x.rn ∧ a1.on = x.on ∧ o'.on = o.on ∧ o'.ts = fmT o.ts x.super ∧
        M = rgM ⟨g.a, fmR g.r x.super⟩ ++ (orcM o' ++ (jB jn0 g.a.rn o.on (frJ x.super 0 0) :: (Tree.treM tn0 ⟨a0, ⟨0, (bare 6).2, [], []⟩⟩ ++ (jB jn1 g.a.rn o.on (frJ x.super 1 0) :: (Tree.treM tn1 ⟨a1, ⟨1, (bare 6).2, [], []⟩⟩ ++
          [stB sn (fmS x x.super jn0 tn0 jn1 tn1 (fmV x.super)), ⟨c4, .cells [pt g.a.rn] 35⟩, ⟨c10, .cells [.string x.super] 9⟩, ⟨c12, .cells [pt sn] 37⟩])))))
theorem format1E (g : Rg) (o : Orc) (sn c4 c10 c12 : Nat) (x : StP) (hf : Fine g.r) (hrn : x.rn = g.a.rn) (hon : x.on = o.on) (hat : x.is.at_ = true) (hs : x.super.size = 64) (hb : o.ts.length ≤ 1099511600000) :
    Fnc Tryz.prog 90 [.func (.func 91) #[] #[pt c4, pt c10, pt c12]] (rgM g ++ (orcM o ++ [stB sn x, ⟨c4, .cells [pt g.a.rn] 35⟩, ⟨c10, .cells [.string x.super] 9⟩, ⟨c12, .cells [pt sn] 37⟩]))
      (fun e M => fmP g o sn c4 c10 c12 x M ∧ e = .returned (.int .i64 0)) := by
  refine caught_ret (cs := [pt c4, pt c10, pt c12]) (v := .tuple #[]) (Fnc_mono (format1 g o sn c4 c10 c12 x hf hrn hon hat hs hb) ?_)
  rintro e M ⟨jn0, tn0, jn1, tn1, a0, a1, o', b1, b2, b3, b4, b5, b6, b7, b8⟩
  exact ⟨⟨jn0, tn0, jn1, tn1, a0, a1, o', b1, b2, b3, b4, b5, b6, b8⟩, b7⟩
set_option maxHeartbeats 4000000 in
theorem format_ (g : Rg) (o : Orc) (g0 g1 g2 : Int) (check : ByteArray) (hf : Fine g.r) (hR : Geom.Right g0 g1 g2) (hc : check.size = 32) (hb : o.ts.length ≤ 1099511600000) :
    Fnc Tryz.prog 42 [pt g.a.rn, pt o.on, .agg #[.int .i64 g0, .int .i64 g1, .int .i64 g2], .string check] (rgM g ++ orcM o)
      (fun e A => ∃ (s : Sto) (o' : Orc), o'.on = o.on ∧ o'.ts = fmT o.ts (Geom.supS g0 g1 g2 check) ∧ s.V = fmV0 g.a.rn o.on g0 g1 g2 (Geom.supS g0 g1 g2 check) ∧ SOk s g.a.rn o.on ∧ e = .returned (.tuple #[pt s.A.sn, .int .i64 0]) ∧
        A = rgM ⟨g.a, fmR g.r (Geom.supS g0 g1 g2 check)⟩ ++ (orcM o' ++ stoM s)) := by
  have hsup := Geom.super g0 g1 g2 check (by omega)
  rw [show Geom.superS g0 g1 g2 check = Geom.supS g0 g1 g2 check by unfold Geom.superS; rw [if_pos ⟨hR, hc⟩], show Geom.superE g0 g1 g2 check = 0 by unfold Geom.superE; rw [if_pos ⟨hR, hc⟩]] at hsup
  have hss : (Geom.supS g0 g1 g2 check).size = 64 := by unfold Geom.supS; rw [ByteArray.size_append, Ev.str_size, Geom.headL_length, hc]
  obtain ⟨super, esu⟩ : ∃ s, s = Geom.supS g0 g1 g2 check := ⟨_, rfl⟩
  rw [← esu] at hsup hss ⊢
  have hcl := fun sn c4 c10 c12 => format1E g o sn c4 c10 c12 (st0 g.a.rn o.on g0 g1 g2 super) hf rfl rfl rfl hss hb
  refine fn_intro Tryz.func42 (by kernel_rfl) ?_
  repeat' ((conv => whnf); first
      | refine call_val hsup ?_
      | (refine bld_cons (vs := [_]) (cs1 := regC rgT) rfl rfl rfl (Nat.le_of_ble_eq_true rfl) rgT_b ?_; refine bld_nil ?_)
      | (refine bld_cons (vs := [_]) rfl rfl rfl (Nat.le_of_ble_eq_true rfl) rfl ?_; refine bld_cons (vs := [_]) rfl rfl rfl (Nat.le_of_ble_eq_true rfl) rfl ?_; refine bld_cons (vs := [_, _, _]) rfl rfl rfl (Nat.le_of_ble_eq_true rfl) rfl ?_; refine bld_cons (vs := [_]) rfl rfl rfl (Nat.le_of_ble_eq_true rfl) rfl ?_; refine bld_cons (vs := regC rgT) (cs1 := stC (st0 g.a.rn o.on g0 g1 g2 super)) rfl rfl (regC_len _) (Nat.le_of_ble_eq_true rfl) (st0_e _ _ _ _ _ _) ?_; refine bld_nil ?_)
      | refine force_of ?_
      | refine draw_any 10 [(0, true), (1, false), (2, true), (3, true), (4, false), (5, true), (6, true), (7, false)] [⟨n, _⟩] rfl (by kernel_rfl) (kept_of (.cons takeC .nil) ?_)
      | refine kept_of (.cons takeC .nil) ?_
      | refine fld1 ?_
      | refine ldN_row _ stC_is (regC_len _) ?_
      | (refine need ?_ ?_; exact regC_len _)
      | refine st_nx ?_
      | refine nw_row (cs' := stC (st0 g.a.rn o.on g0 g1 g2 super)) rfl (fun sn => ?_)
      | (refine call_g (hcl sn _ _ _) (.grp takeG (.grp takeG (.blk takeC (.blk takeC (.blk takeC (.blk takeC .nil)))))) (fun e A' hq => ?_); obtain ⟨⟨jn0, tn0, jn1, tn1, a0, a1, o1, b1, b2, b3, b4, b5, b6, b7⟩, b8⟩ := hq; subst b7; subst b8)
      | refine ld1_lit ?_
      | refine ldN_lit ?_
      | refine nw (fun n => ?_)
      | refine st_lit rfl ?_
      | refine need (by first | rfl | omega) ?_
      | (refine ifs (fun h => ?_) (fun h => ?_) <;> (try (exfalso; first | omega | with_reducible contradiction | with_reducible exact h rfl))))
  all_goals (conv => whnf)
  all_goals exact fin_g (A := rgM ⟨g.a, _⟩ ++ (orcM o1 ++ (⟨sn, _⟩ :: (⟨jn0, _⟩ :: (⟨jn1, _⟩ :: (Tree.treM tn0 ⟨a0, _⟩ ++ Tree.treM tn1 ⟨a1, _⟩)))))) (.grp takeG (.grp takeG (.blk takeC (.blk takeC (.blk takeC (.grp takeG (.one takeG))))))) ⟨⟨⟨sn, jn0, jn1, tn0, tn1, a0, a1⟩, fmV0 g.a.rn o.on g0 g1 g2 super⟩, o1, b5, b6, rfl, ⟨rfl, rfl, b1, b2, b3, b4⟩, rfl, rfl⟩
end Go.Proofs.YtkjamonkohpcnaaGreat.Sto
/- A store: a call runs. -/
namespace Go.Proofs.YtkjamonkohpcnaaGreat.Sto
open Go Ev Sha Aes Orc Node Rec Chn Jrn Cau
open Rig (RigP Rg rgM readR writeR flushR setRegR z64 app_of tick comes write_ mayE RigA)
set_option linter.unusedVariables false
set_option linter.unusedSimpArgs false
set_option maxRecDepth 100000
attribute [local irreducible] dgV D jC wrF rcC stC regC flF srF bare BareT frR frT frA frJ fmV RgV.lay fmR fmT
theorem failed_ (sn : Nat) (x : StP) (h : x.failed = 0) : Fnc Tryz.prog 13 [pt sn] [stB sn x] (Ret (.int .i64 0) [stB sn x]) := by
  have hf := stC_f (x := x)
  rw [h] at hf
  refine fn_intro Tryz.func13 (by kernel_rfl) ?_
  repeat' ((conv => whnf); first
      | refine ld1_row hf ?_
      | (refine ifs (fun h => ?_) (fun h => ?_) <;> (try (exfalso; first | omega | with_reducible contradiction | with_reducible exact h rfl))))
  all_goals (conv => whnf)
  all_goals exact fin_all ⟨rfl, rfl⟩
def failE (e f : Int) : Int := if e = 10 ∨ e = 11 ∨ e = 12 then e else f
theorem end_ (sn : Nat) (x : StP) (e : Int) : Fnc Tryz.prog 115 [pt sn, .int .i64 e] [stB sn x] (Ret (.int .i64 e) [stB sn { x with failed := failE e x.failed }]) := by
  refine fn_intro Tryz.func115 (by kernel_rfl) ?_
  repeat' ((conv => whnf); first
      | refine st_f ?_
      | refine need (by first | rfl | omega) ?_
      | (refine ifs (fun h => ?_) (fun h => ?_) <;> (try (exfalso; first | omega | with_reducible contradiction | with_reducible exact h rfl))))
  all_goals (conv => whnf)
  all_goals first
    | (rw [show failE e x.failed = e by unfold failE; rw [if_pos (by omega)]]; exact fin_all ⟨rfl, rfl⟩)
    | (rw [show failE e x.failed = x.failed by unfold failE; rw [if_neg (by omega)]]; exact fin_all ⟨rfl, rfl⟩)
/-- A call of a store that has not failed: what its closure does, and how it ends. -/
theorem run_ (sn : Nat) (x : StP) (f : FuncId) (cs : List Value) (R : List Blk) (Q : Option Int → StP → List Blk → Prop) (h : x.failed = 0)
    (hg : Fnc Tryz.prog f (([] ++ []) ++ cs) (stB sn x :: R) (Cau.Ends fun o M => ∃ y S, Q o y S ∧ M = stB sn y :: S)) :
    Fnc Tryz.prog 57 [pt sn, .func (.func f) #[] cs.toArray] (stB sn x :: R)
      (fun e M => ∃ o y S, Q o y S ∧ e = .returned (.int .i64 (o.getD 0)) ∧ M = stB sn { y with failed := failE (o.getD 0) y.failed } :: S) := by
  have h1 := failed_ sn x h
  have h2 := caught_ f [] cs (stB sn x :: R) _ hg
  have h3 := fun y e => end_ sn y e
  refine fn_intro Tryz.func57 (by kernel_rfl) ?_
  repeat' ((conv => whnf); first
      | refine call_gr h1 (.blk takeC .nil) ?_
      | (refine call_g h2 takesG_all (fun e A' hq => ?_); obtain ⟨q, ⟨y, S, hQ, hM⟩, he⟩ := hq; subst hM; subst he)
      | refine call_gr (h3 _ _) (.blk takeC .nil) ?_
      | (refine ifs (fun h => ?_) (fun h => ?_) <;> (try (exfalso; first | omega | with_reducible contradiction | with_reducible exact h rfl))))
  all_goals (conv => whnf)
  all_goals rw [List.append_nil]
  all_goals exact fin_all ⟨q, y, S, hQ, rfl, rfl⟩
theorem tree_0 (sn : Nat) (x : StP) : Fnc Tryz.prog 99 [pt sn, .int .i64 0] [stB sn x] (Ret (.pointer x.t0) [stB sn x]) := by
  refine fn_intro Tryz.func99 (by kernel_rfl) ?_
  repeat' ((conv => whnf); first
      | refine nv_eq (a := 6) rfl ?_
      | refine ld1_row stC_7 ?_
      | refine need (by first | rfl | omega) ?_
      | (refine ifs (fun h => ?_) (fun h => ?_) <;> (try (exfalso; first | omega | with_reducible contradiction | with_reducible exact h rfl))))
  all_goals (conv => whnf)
  all_goals exact fin_all ⟨rfl, rfl⟩
theorem tree_1 (sn : Nat) (x : StP) (h : x.is.at_ = true) : Fnc Tryz.prog 99 [pt sn, .int .i64 1] [stB sn x] (Ret (.pointer x.t1) [stB sn x]) := by
  have hat := stC_at (x := x)
  rw [h] at hat
  refine fn_intro Tryz.func99 (by kernel_rfl) ?_
  repeat' ((conv => whnf); first
      | refine nv_eq (a := 8) rfl ?_
      | refine ld1_row stC_9 ?_
      | refine ld1_row hat ?_
      | refine need (by first | rfl | omega) ?_
      | (refine ifs (fun h => ?_) (fun h => ?_) <;> (try (exfalso; first | omega | with_reducible contradiction | with_reducible exact h rfl))))
  all_goals (conv => whnf)
  all_goals exact fin_all ⟨rfl, rfl⟩
theorem tree_2 (sn : Nat) (x : StP) (d : Int) (h : d ≠ 0 ∧ d ≠ 1) : Fnc Tryz.prog 99 [pt sn, .int .i64 d] [] (fun e A => e = .panicked (pe 2) ∧ A = []) := by
  obtain ⟨h0, h1⟩ := h
  refine fn_intro Tryz.func99 (by kernel_rfl) ?_
  repeat' ((conv => whnf); first
      | (refine ifs (fun h => ?_) (fun h => ?_) <;> (try (exfalso; first | omega | with_reducible contradiction | with_reducible exact h rfl))))
  all_goals (conv => whnf)
  all_goals exact fin_nil ⟨rfl, rfl⟩
theorem room_ok (tn : Nat) (x : Tree.Tre) (h : x.t.sheet.length ≤ 57) : Fnc Tryz.prog 98 [pt tn] (Tree.treM tn x) (Ret (pt tn) (Tree.treM tn x)) := by
  have h1 := Tree.tsheet tn x
  have h2 := Tree.slen x.a.sn x.a.mn x.t.sheet
  refine fn_intro Tryz.func98 (by kernel_rfl) ?_
  repeat' ((conv => whnf); first
      | refine call_gr h1 (.one takeG) ?_
      | (unfold Tree.treM; refine call_gr h2 (.blk takeC (.blk takeC .nil)) ?_)
      | (refine ifs (fun h => ?_) (fun h => ?_) <;> (try (exfalso; first | omega | with_reducible contradiction | with_reducible exact h rfl))))
  all_goals (conv => whnf)
  all_goals exact fin_g (A := [⟨tn, _⟩, ⟨x.a.sn, _⟩, ⟨x.a.mn, _⟩, ⟨x.a.kn, _⟩]) (.blk takeC (.blk takeC (.blk takeC (.blk takeC .nil)))) ⟨rfl, rfl⟩
theorem room_no (tn : Nat) (x : Tree.Tre) (h : 57 < x.t.sheet.length) : Fnc Tryz.prog 98 [pt tn] (Tree.treM tn x) (fun e A => e = .panicked (pe 9) ∧ A = Tree.treM tn x) := by
  have h1 := Tree.tsheet tn x
  have h2 := Tree.slen x.a.sn x.a.mn x.t.sheet
  refine fn_intro Tryz.func98 (by kernel_rfl) ?_
  repeat' ((conv => whnf); first
      | refine call_gr h1 (.one takeG) ?_
      | (unfold Tree.treM; refine call_gr h2 (.blk takeC (.blk takeC .nil)) ?_)
      | (refine ifs (fun h => ?_) (fun h => ?_) <;> (try (exfalso; first | omega | with_reducible contradiction | with_reducible exact h rfl))))
  all_goals (conv => whnf)
  all_goals exact fin_g (A := [⟨tn, _⟩, ⟨x.a.sn, _⟩, ⟨x.a.mn, _⟩, ⟨x.a.kn, _⟩]) (.blk takeC (.blk takeC (.blk takeC (.blk takeC .nil)))) ⟨rfl, rfl⟩
end Go.Proofs.YtkjamonkohpcnaaGreat.Sto
