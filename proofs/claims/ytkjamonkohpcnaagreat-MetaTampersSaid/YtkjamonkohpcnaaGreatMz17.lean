/- A store on any rig: a device's journal begun, a tree of bare leaves laid, a device made anew. -/
import Derived.Test.YtkjamonkohpcnaaGreatMz16
import Derived.Test.YtkjamonkohpcnaaGreatMz4
import Derived.ScopeJumps
namespace Go.Proofs.YtkjamonkohpcnaaGreat.Stg
open Go Ev Sha Aes Orc Node Rec Chn Jrn Cau Sto Srt
open Rig (Fnc_takeR RigP Rg rgM readR writeR flushR setRegR z64 app_of tick comes write_ flush_ setreg_ mayE RigA)
set_option linter.unusedVariables false
set_option linter.unusedSimpArgs false
set_option maxRecDepth 100000
/-- How a store's begin ends. -/
def BgQ (a : RigA) (o : Orc) (q : Rt × Int) (sn xn : Nat) (x : StP) (y : RgV) (d : Nat) (area : Int) (J : JrP) : Ending → List Blk → Prop := fun e M => ∃ o' : Orc, o'.on = o.on ∧ o'.ts = q.1.ts ∧
  ((q.2 = 0 ∧ ∃ jn : Nat, e = .returned (.tuple #[]) ∧ M = rgM ⟨a, q.1.r⟩ ++ (orcM o' ++ [jB jn a.rn o.on J, stB sn (x.setJ d (some ⟨jn, 0, none⟩)), rgB xn (y.set d J.anchor area 1)])) ∨
   (q.2 ≠ 0 ∧ e = .panicked (pe q.2) ∧ M = rgM ⟨a, q.1.r⟩ ++ (orcM o' ++ [stB sn x, rgB xn y])))
attribute [local irreducible] dgV D jC wrF rcC stC regC RgV.lay rgM setRegR writeR rcP recB begJ beginG
set_option maxHeartbeats 2000000 in
theorem beging (a : RigA) (s : Rt) (o : Orc) (sn xn : Nat) (x : StP) (y : RgV) (d area : Nat) (seq : Int) (root : Dg) (hrn : x.rn = a.rn) (hon : x.on = o.on) (hts : o.ts = s.ts) (hd : d ≤ 1) (ha : area ≤ 1) (hs : x.super.size = 64) (hq : seqOk seq) (hb : s.ts.length ≤ 1099511627000) :
    Fnc Tryz.prog 161 [pt sn, pt xn, .int .i64 d, .int .i64 area, .agg (rcC seq root).toArray] (rgM ⟨a, s.r⟩ ++ (orcM o ++ [stB sn x, rgB xn y]))
      (BgQ a o (beginG x.super d area seq root s) sn xn x y d area (begJ x.super d area seq root)) := by
  have hj := jbeging a s o x.super d area seq root hts hd ha hs hq hb
  have eu : (begJ x.super d area seq root).used = 1 := by unfold begJ addJs jr0; rfl
  obtain ⟨J, eJ⟩ : ∃ J, J = begJ x.super d area seq root := ⟨_, rfl⟩
  obtain ⟨q, eq⟩ : ∃ q, q = beginG x.super d area seq root s := ⟨_, rfl⟩
  rw [← eJ] at hj eu ⊢
  rw [← eq] at hj ⊢
  have h1 := fun jn => janchor jn x.rn x.on J
  have h2 := fun jn => jused jn x.rn x.on J
  rw [eu] at h2
  unfold BegQ at hj
  unfold BgQ
  rw [← hrn, ← hon] at hj ⊢
  have hdd : d = 0 ∨ d = 1 := by omega
  rcases hdd with rfl | rfl
  all_goals
    refine fn_intro Tryz.func161 (by kernel_rfl) ?_
    repeat' ((conv => whnf); first
        | refine force_of ?_
        | refine nw_row (cs' := rcC seq root) rfl (fun n => ?_)
        | refine draw_any 1 [(0, true), (1, true), (2, true), (4, true), (5, true), (6, true), (8, true), (9, true), (10, true), (12, true), (13, true), (3, true), (7, true), (11, true), (14, true), (15, false), (16, false), (17, true), (18, true), (19, true), (20, true), (21, true)] [⟨sn, _⟩] rfl (by kernel_rfl) (kept_of (.cons takeC .nil) ?_)
        | refine kept_of (.cons takeC .nil) ?_
        | refine fld1_row (n := sn) stC_0 ?_
        | refine fld1_row (n := sn) stC_1 ?_
        | refine fld1_row (n := sn) stC_5 ?_
        | refine ldN_whole (n := n) (rcC_len _ _) ?_
        | (refine call_g hj (.grp takeG (.one takeG)) (fun e A' hq => ?_); obtain ⟨o1, a1, a2, ⟨q0, jn, a3, a4⟩ | ⟨q0, a3, a4⟩⟩ := hq <;> subst a3 <;> subst a4)
        | (rw [q0]; refine call_val must_ok ?_)
        | (refine call_g (must_no _ q0) .nil (fun e A' hq => ?_); obtain ⟨p1, p2⟩ := hq; subst p1; subst p2)
        | refine nv_eq (a := 6) rfl ?_
        | refine nv_eq (a := 8) rfl ?_
        | refine st_6 ?_
        | refine st_8 ?_
        | refine draw_any 4 [(0, true), (1, true), (2, true), (3, true), (4, true), (5, true), (6, true), (8, true), (9, true), (11, true), (12, true), (15, true), (16, true), (19, true), (20, true), (7, false), (10, false), (13, true), (14, false), (17, true), (18, false), (21, true), (22, false)] [] rfl (by kernel_rfl) ?_
        | refine kept_nil ?_
        | refine call_gr (h1 jn) (.blk takeC .nil) ?_
        | refine call_gr (h2 jn) (.blk takeC .nil) ?_
        | refine nv_eq (a := 0) rfl ?_
        | refine nv_eq (a := 32) rfl ?_
        | refine nv_eq (a := 66) rfl ?_
        | refine nv_eq (a := 67) rfl ?_
        | refine nv_eq (a := 68) rfl ?_
        | refine nv_eq (a := 69) rfl ?_
        | (refine need ?_ ?_; exact dgV_len _)
        | refine st_ra0 ?_
        | refine st_ra1 ?_
        | refine st_r66 ?_
        | refine st_r67 ?_
        | refine st_r68 ?_
        | refine st_r69 ?_
        | refine bld ?_
        | refine need (by first | rfl | omega) ?_)
    all_goals (conv => whnf)
    all_goals first
      | exact fin_g (A := rgM _ ++ (orcM o1 ++ [jB jn x.rn x.on J, stB sn _, rgB xn _])) (.grp takeG (.grp takeG (.blk takeC (.blk takeC (.blk takeC .nil))))) ⟨o1, a1, a2, .inl ⟨by first | rfl | exact q0, jn, rfl, rfl⟩⟩
      | exact fin_g (A := rgM _ ++ (orcM o1 ++ [stB sn x, rgB xn y])) (.grp takeG (.grp takeG (.blk takeC (.blk takeC .nil)))) ⟨o1, a1, a2, .inr ⟨q0, rfl, rfl⟩⟩
attribute [local irreducible] bare BareT
end Go.Proofs.YtkjamonkohpcnaaGreat.Stg
/- A store on any rig: a device made anew. -/
namespace Go.Proofs.YtkjamonkohpcnaaGreat.Stg
open Go Ev Sha Aes Orc Node Rec Chn Jrn Cau Sto Srt
open Rig (Fnc_takeR RigP Rg rgM readR writeR flushR setRegR z64 app_of tick comes write_ flush_ setreg_ mayE RigA)
set_option linter.unusedVariables false
set_option linter.unusedSimpArgs false
set_option maxRecDepth 100000
attribute [local irreducible] dgV D jC wrF rcC stC regC RgV.lay rgM setRegR writeR rcP recB begJ beginG bare BareT
end Go.Proofs.YtkjamonkohpcnaaGreat.Stg
/- A store on any rig: new areas begun. -/
namespace Go.Proofs.YtkjamonkohpcnaaGreat.Stg
open Go Ev Sha Aes Orc Node Rec Chn Jrn Cau Sto Srt
open Rig (Fnc_takeR RigP Rg rgM readR writeR flushR setRegR z64 app_of tick comes write_ flush_ setreg_ mayE RigA)
set_option linter.unusedVariables false
set_option linter.unusedSimpArgs false
set_option maxRecDepth 100000
/-- What is at hand when areas are begun. -/
structure Ax where
  s : Rt
  j0 : JrP
  j1 : JrP
  y : RgV
noncomputable def flA (l : List Nat) (q : Ax) : Ax × Int := (⟨⟨(lp (flG l) l.length 0 q.s.r).1, q.s.ts⟩, q.j0, q.j1, q.y⟩, (lp (flG l) l.length 0 q.s.r).2)
/-- A device's area begun. -/
noncomputable def ar0 (super : ByteArray) (q : Ax) : Ax × Int :=
  if (beginG super 0 (1 - q.j0.area) q.j0.seq q.j0.root q.s).2 = 0 then (⟨(beginG super 0 (1 - q.j0.area) q.j0.seq q.j0.root q.s).1, begJ super 0 (1 - q.j0.area) q.j0.seq q.j0.root, q.j1, q.y.set 0 (begJ super 0 (1 - q.j0.area) q.j0.seq q.j0.root).anchor (1 - q.j0.area : Nat) 1⟩, 0)
  else (⟨(beginG super 0 (1 - q.j0.area) q.j0.seq q.j0.root q.s).1, q.j0, q.j1, q.y⟩, (beginG super 0 (1 - q.j0.area) q.j0.seq q.j0.root q.s).2)
noncomputable def ar1 (super : ByteArray) (q : Ax) : Ax × Int :=
  if (beginG super 1 (1 - q.j1.area) q.j1.seq q.j1.root q.s).2 = 0 then (⟨(beginG super 1 (1 - q.j1.area) q.j1.seq q.j1.root q.s).1, q.j0, begJ super 1 (1 - q.j1.area) q.j1.seq q.j1.root, q.y.set 1 (begJ super 1 (1 - q.j1.area) q.j1.seq q.j1.root).anchor (1 - q.j1.area : Nat) 1⟩, 0)
  else (⟨(beginG super 1 (1 - q.j1.area) q.j1.seq q.j1.root q.s).1, q.j0, q.j1, q.y⟩, (beginG super 1 (1 - q.j1.area) q.j1.seq q.j1.root q.s).2)
noncomputable def stA (q : Ax) : Ax × Int := (⟨⟨(setG q.s.r q.y).1, q.s.ts⟩, q.j0, q.j1, q.y⟩, (setG q.s.r q.y).2)
noncomputable def areas2G (super : ByteArray) (q : Ax) : Ax × Int := bd (τ := Ax) (flA [0, 1] q) fun q => bd (τ := Ax) (ar0 super q) fun q => bd (τ := Ax) (ar1 super q) fun q => bd (τ := Ax) (flA [0, 1] q) stA
theorem bd_pok {σ τ : Type} {s : σ} {c : Int} {g : σ → σ × Int} (h : c = 0) : bd (τ := τ) (s, c) g = g s := if_pos h
theorem bd_pno {σ τ : Type} {s : σ} {c : Int} {g : σ → σ × Int} (h : c ≠ 0) : bd (τ := τ) (s, c) g = (s, c) := if_neg h
theorem bd_no {σ τ : Type} {x : σ × Int} {g : σ → σ × Int} (h : x.2 ≠ 0) : bd (τ := τ) x g = x := if_neg h
abbrev lB (ln : Nat) (l : List Nat) : Blk := ⟨ln, .row (l.map fun d => .int .i64 (d : Nat)) 3⟩
/-- A store whose first journal lies at jn, and which says y. -/
def StP.wj (x : StP) (jn : Nat) (y : RgV) : StP := { x with j0 := some ⟨jn, 0, none⟩, is := y }
def StP.wjj (x : StP) (jn jm : Nat) (y : RgV) : StP := { x with j0 := some ⟨jn, 0, none⟩, j1 := some ⟨jm, 0, none⟩, is := y }
theorem rzs_e (seq : Int) (b : Dg) : (Value.int .i64 seq :: (List.replicate 32 (.int .u8 0) ++ [.slice none 0 0])).take 1 ++ dgV b ++ (Value.int .i64 seq :: (List.replicate 32 (.int .u8 0) ++ [.slice none 0 0])).drop (1 + 32) = rcC seq b := rfl
attribute [local irreducible] dgV D jC wrF rcC stC regC RgV.lay rgM setRegR writeR rcP recB begJ beginG bare BareT setG
theorem beginG_len (super : ByteArray) (d area : Nat) (seq : Int) (root : Dg) (s : Rt) : (beginG super d area seq root s).1.ts.length ≤ s.ts.length + 2 := by
  unfold beginG
  have h1 := addT_len s.ts (startS super d area)
  have h2 := addT_len (addT s.ts (startS super d area)) (nextSs (D (startS super d area)) [recB seq root])
  split
  · show (addT (addT s.ts (startS super d area)) (nextSs (D (startS super d area)) [recB seq root])).length ≤ _; omega
  · show (addT s.ts (startS super d area)).length ≤ _; omega
set_option maxHeartbeats 8000000 in
theorem areas2 (a : RigA) (q : Ax) (o : Orc) (sn ln c jn0 jn1 : Nat) (x : StP) (hrn : x.rn = a.rn) (hon : x.on = o.on) (hts : o.ts = q.s.ts) (hj0 : x.j0 = some ⟨jn0, 0, none⟩) (hj1 : x.j1 = some ⟨jn1, 0, none⟩) (hs : x.super.size = 64) (ha0 : q.j0.area ≤ 1) (hq0 : seqOk q.j0.seq) (ha1 : q.j1.area ≤ 1) (hq1 : seqOk q.j1.seq) (hb : q.s.ts.length ≤ 1099511600000) :
    Fnc Tryz.prog 121 [pt sn, .agg (regC q.y).toArray, .slice (some ⟨ln, 0, none⟩) 2 c] (rgM ⟨a, q.s.r⟩ ++ (orcM o ++ [stB sn x, jB jn0 a.rn o.on q.j0, jB jn1 a.rn o.on q.j1, lB ln [0, 1]]))
      (fun e M => ∃ (o' : Orc) (jn jm : Nat), o'.on = o.on ∧ o'.ts = (areas2G x.super q).1.s.ts ∧ Pe (areas2G x.super q).2 e ∧
        M = rgM ⟨a, (areas2G x.super q).1.s.r⟩ ++ (orcM o' ++ [stB sn (StP.wjj x jn jm (if (areas2G x.super q).2 = 0 then (areas2G x.super q).1.y else x.is)), jB jn a.rn o.on (areas2G x.super q).1.j0, jB jm a.rn o.on (areas2G x.super q).1.j1])) := by
  obtain ⟨s, J0, J1, y⟩ := q
  dsimp only at *
  have hx0 : x = StP.wjj x jn0 jn1 x.is := by unfold StP.wjj; rw [← hj0, ← hj1]
  have g1 := flushg a s.r sn ln c x [0, 1] hrn (by decide)
  obtain ⟨F, eF⟩ : ∃ F, F = lp (flG [0, 1]) [0, 1].length 0 s.r := ⟨_, rfl⟩
  have g2 := fun xn => beging a ⟨F.1, s.ts⟩ o sn xn x y 0 (1 - J0.area) J0.seq J0.root hrn hon hts (by omega) (by omega) hs hq0 (by show s.ts.length ≤ _; omega)
  have hk1 := jarea jn0 a.rn o.on J0
  have hk2 := jseq jn0 a.rn o.on J0
  have hk3 := jroot jn0 a.rn o.on J0
  have ea : (1 : Int) - (J0.area : Int) = ((1 - J0.area : Nat) : Int) := by omega
  have ea1 : (1 : Int) - (J1.area : Int) = ((1 - J1.area : Nat) : Int) := by omega
  have hBl := beginG_len x.super 0 (1 - J0.area) J0.seq J0.root ⟨F.1, s.ts⟩
  obtain ⟨B, eB⟩ : ∃ B, B = beginG x.super 0 (1 - J0.area) J0.seq J0.root ⟨F.1, s.ts⟩ := ⟨_, rfl⟩
  obtain ⟨K, eK⟩ : ∃ K, K = begJ x.super 0 (1 - J0.area) J0.seq J0.root := ⟨_, rfl⟩
  unfold BgQ at g2
  rw [← eF] at g1
  rw [← eB, ← eK] at g2
  rw [← eB] at hBl
  dsimp only at hBl
  have g5 := fun (xn jn : Nat) (o1 : Orc) (e1 : o1.on = o.on) (e2 : o1.ts = B.1.ts) => beging a B.1 o1 sn xn (x.setJ 0 (some ⟨jn, 0, none⟩)) (y.set 0 K.anchor (1 - J0.area : Nat) 1) 1 (1 - J1.area) J1.seq J1.root hrn (hon.trans e1.symm) e2 (by omega) (by omega) hs hq1 (by omega)
  have hm1 := fun (o1 : Orc) (e1 : o1.on = o.on) => jarea jn1 a.rn o.on J1
  have hm2 := jseq jn1 a.rn o.on J1
  have hm3 := jroot jn1 a.rn o.on J1
  obtain ⟨E, eE⟩ : ∃ E, E = beginG x.super 1 (1 - J1.area) J1.seq J1.root B.1 := ⟨_, rfl⟩
  obtain ⟨N, eN⟩ : ∃ N, N = begJ x.super 1 (1 - J1.area) J1.seq J1.root := ⟨_, rfl⟩
  unfold BgQ at g5
  have esup : ∀ jn, (x.setJ 0 (some ⟨jn, 0, none⟩)).super = x.super := fun jn => rfl
  simp only [esup] at g5
  rw [← eE, ← eN] at g5
  have g3 := fun jn jm => flushg a E.1.r sn ln c ((x.setJ 0 (some ⟨jn, 0, none⟩)).setJ 1 (some ⟨jm, 0, none⟩)) [0, 1] hrn (by decide)
  obtain ⟨G, eG⟩ : ∃ G, G = lp (flG [0, 1]) [0, 1].length 0 E.1.r := ⟨_, rfl⟩
  rw [← eG] at g3
  have g4 := fun jn jm => setg a G.1 sn ((x.setJ 0 (some ⟨jn, 0, none⟩)).setJ 1 (some ⟨jm, 0, none⟩)) ((y.set 0 K.anchor (1 - J0.area : Nat) 1).set 1 N.anchor (1 - J1.area : Nat) 1) hrn
  have hfl : flA [0, 1] ⟨s, J0, J1, y⟩ = (⟨⟨F.1, s.ts⟩, J0, J1, y⟩, F.2) := by rw [eF]; rfl
  have har : ar0 x.super ⟨⟨F.1, s.ts⟩, J0, J1, y⟩ = if B.2 = 0 then (⟨B.1, K, J1, (y.set 0 K.anchor (1 - J0.area : Nat) 1)⟩, 0) else (⟨B.1, J0, J1, y⟩, B.2) := by rw [eB, eK]; rfl
  have har1 : ar1 x.super ⟨B.1, K, J1, (y.set 0 K.anchor (1 - J0.area : Nat) 1)⟩ = if E.2 = 0 then (⟨E.1, K, N, ((y.set 0 K.anchor (1 - J0.area : Nat) 1).set 1 N.anchor (1 - J1.area : Nat) 1)⟩, 0) else (⟨E.1, K, J1, (y.set 0 K.anchor (1 - J0.area : Nat) 1)⟩, E.2) := by rw [eE, eN]; rfl
  have hfl2 : ∀ y', flA [0, 1] ⟨E.1, K, N, y'⟩ = (⟨⟨G.1, E.1.ts⟩, K, N, y'⟩, G.2) := fun y' => by rw [eG]; rfl
  refine fn_intro Tryz.func121 (by kernel_rfl) ?_
  repeat' ((conv => whnf); first
      | refine force_of ?_
      | refine nw_row (cs' := regC y) rfl (fun xn => ?_)
      | (refine call_g g1 (.grp takeG (.blk takeC (.blk takeC .nil))) (fun e A' hq => ?_); obtain ⟨⟨p1, p2⟩ | ⟨p1, p2⟩, p3⟩ := hq <;> subst p2 <;> subst p3)
      | refine loop_n 3 ?_
      | refine nv_eq (a := 0) rfl ?_
      | refine nv_eq (a := 6) rfl ?_
      | refine nv_eq (a := 1) rfl ?_
      | refine nv_eq (a := 8) rfl ?_
      | refine ld1_row (n := ln) (v := .int .i64 0) rfl ?_
      | refine ld1_row (n := ln) (v := .int .i64 1) rfl ?_
      | refine ld1_row (n := sn) (v := pt jn0) (by rw [stC_6, hj0]) ?_
      | refine ld1_row (n := sn) (v := pt jn1) (by rw [stC_8]; show some (Value.pointer x.j1) = _; rw [hj1]) ?_
      | refine call_gr hk1 (.blk takeC .nil) ?_
      | refine call_gr hk2 (.blk takeC .nil) ?_
      | refine call_gr hk3 (.blk takeC .nil) ?_
      | refine call_gr (hm1 o1 a1) (.blk takeC .nil) ?_
      | refine call_gr hm2 (.blk takeC .nil) ?_
      | refine call_gr hm3 (.blk takeC .nil) ?_
      | (refine wr (fun z hz => ?_); rw [ea, w64 (by omega) (by omega)] at hz; subst hz)
      | (refine wr (fun z hz => ?_); rw [ea1, w64 (by omega) (by omega)] at hz; subst hz)
      | (refine bld_cons (vs := [_]) rfl rfl rfl (Nat.le_of_ble_eq_true rfl) rfl ?_; refine bld_cons (vs := dgV J0.root) (cs1 := rcC J0.seq J0.root) rfl rfl (dgV_len _) (Nat.le_of_ble_eq_true rfl) (rzs_e _ _) ?_; refine bld_nil ?_)
      | (refine bld_cons (vs := [_]) rfl rfl rfl (Nat.le_of_ble_eq_true rfl) rfl ?_; refine bld_cons (vs := dgV J1.root) (cs1 := rcC J1.seq J1.root) rfl rfl (dgV_len _) (Nat.le_of_ble_eq_true rfl) (rzs_e _ _) ?_; refine bld_nil ?_)
      | (refine call_g (g2 xn) (.grp takeG (.grp takeG (.blk takeC (.blk takeC .nil)))) (fun e A' hq => ?_); obtain ⟨o1, a1, a2, ⟨r1, jn, a3, a4⟩ | ⟨r1, a3, a4⟩⟩ := hq <;> subst a3 <;> subst a4)
      | (refine call_g (g5 xn jn o1 a1 a2) (.grp takeG (.grp takeG (.blk takeC (.blk takeC .nil)))) (fun e A' hq => ?_); obtain ⟨o2, b1, b2, ⟨s1, jm, b3, b4⟩ | ⟨s1, b3, b4⟩⟩ := hq <;> subst b3 <;> subst b4)
      | (refine call_g (g3 jn jm) (.grp takeG (.blk takeC (.blk takeC .nil))) (fun e A' hq => ?_); obtain ⟨⟨t1, t2⟩ | ⟨t1, t2⟩, t3⟩ := hq <;> subst t2 <;> subst t3)
      | refine ldN_whole (n := xn) (regC_len _) ?_
      | (refine call_g (g4 jn jm) (.grp takeG (.blk takeC .nil)) (fun e A' hq => ?_); obtain ⟨⟨u1, u2⟩ | ⟨u1, u2⟩, u3⟩ := hq <;> subst u2 <;> subst u3)
      | refine need (by first | rfl | omega) ?_
      | (refine wr (fun z hz => ?_); (try rw [Int.tdiv_eq_ediv_of_nonneg (by omega)] at hz); rw [w64 (by omega) (by omega)] at hz; subst hz)
      | (refine ifs (fun h => ?_) (fun h => ?_) <;> (try (exfalso; first | omega | with_reducible contradiction | with_reducible exact h rfl))))
  all_goals (conv => whnf)
  · have hQ : areas2G x.super ⟨s, J0, J1, y⟩ = (⟨⟨(setG G.1 ((y.set 0 K.anchor (1 - J0.area : Nat) 1).set 1 N.anchor (1 - J1.area : Nat) 1)).1, E.1.ts⟩, K, N, ((y.set 0 K.anchor (1 - J0.area : Nat) 1).set 1 N.anchor (1 - J1.area : Nat) 1)⟩, (setG G.1 ((y.set 0 K.anchor (1 - J0.area : Nat) 1).set 1 N.anchor (1 - J1.area : Nat) 1)).2) := by
      unfold areas2G; rw [hfl, bd_pok p1, har, if_pos r1, bd_pok rfl, har1, if_pos s1, bd_pok rfl, hfl2, bd_pok t1]; rfl
    rw [hQ]
    rw [a1]
    simp only [if_pos u1]
    exact fin_g (A := rgM _ ++ (orcM o2 ++ [stB sn _, jB jn a.rn o.on K, jB jm a.rn o.on N])) (.grp takeG (.grp takeG (.blk takeC (.blk takeC (.blk takeC .nil))))) ⟨o2, jn, jm, b1.trans a1, b2, .inl ⟨u1, rfl⟩, rfl⟩
  · have hQ : areas2G x.super ⟨s, J0, J1, y⟩ = (⟨⟨(setG G.1 ((y.set 0 K.anchor (1 - J0.area : Nat) 1).set 1 N.anchor (1 - J1.area : Nat) 1)).1, E.1.ts⟩, K, N, ((y.set 0 K.anchor (1 - J0.area : Nat) 1).set 1 N.anchor (1 - J1.area : Nat) 1)⟩, (setG G.1 ((y.set 0 K.anchor (1 - J0.area : Nat) 1).set 1 N.anchor (1 - J1.area : Nat) 1)).2) := by
      unfold areas2G; rw [hfl, bd_pok p1, har, if_pos r1, bd_pok rfl, har1, if_pos s1, bd_pok rfl, hfl2, bd_pok t1]; rfl
    rw [hQ]
    rw [a1]
    simp only [if_neg u1]
    exact fin_g (A := rgM _ ++ (orcM o2 ++ [stB sn _, jB jn a.rn o.on K, jB jm a.rn o.on N])) (.grp takeG (.grp takeG (.blk takeC (.blk takeC (.blk takeC .nil))))) ⟨o2, jn, jm, b1.trans a1, b2, .inr ⟨u1, rfl⟩, rfl⟩
  · have hQ : areas2G x.super ⟨s, J0, J1, y⟩ = (⟨⟨G.1, E.1.ts⟩, K, N, ((y.set 0 K.anchor (1 - J0.area : Nat) 1).set 1 N.anchor (1 - J1.area : Nat) 1)⟩, G.2) := by
      unfold areas2G; rw [hfl, bd_pok p1, har, if_pos r1, bd_pok rfl, har1, if_pos s1, bd_pok rfl, hfl2, bd_pno t1]
    rw [hQ]
    rw [a1]
    simp only [if_neg t1]
    exact fin_g (A := rgM _ ++ (orcM o2 ++ [stB sn _, jB jn a.rn o.on K, jB jm a.rn o.on N])) (.grp takeG (.grp takeG (.blk takeC (.blk takeC (.blk takeC .nil))))) ⟨o2, jn, jm, b1.trans a1, b2, .inr ⟨t1, rfl⟩, rfl⟩
  · have hQ : areas2G x.super ⟨s, J0, J1, y⟩ = (⟨E.1, K, J1, (y.set 0 K.anchor (1 - J0.area : Nat) 1)⟩, E.2) := by
      unfold areas2G; rw [hfl, bd_pok p1, har, if_pos r1, bd_pok rfl, har1, if_neg s1, bd_pno s1]
    rw [hQ]
    simp only [if_neg s1]
    exact fin_g (A := rgM _ ++ (orcM o2 ++ [stB sn _, jB jn a.rn o.on K, jB jn1 a.rn o.on J1])) (.grp takeG (.grp takeG (.blk takeC (.blk takeC (.blk takeC .nil))))) ⟨o2, jn, jn1, b1.trans a1, b2, .inr ⟨s1, rfl⟩, by unfold StP.wjj StP.setJ; rw [if_pos rfl, ← hj1]⟩
  · have hQ : areas2G x.super ⟨s, J0, J1, y⟩ = (⟨B.1, J0, J1, y⟩, B.2) := by
      unfold areas2G; rw [hfl, bd_pok p1, har, if_neg r1, bd_pno r1]
    rw [hQ]
    simp only [if_neg r1]
    exact fin_g (A := rgM _ ++ (orcM o1 ++ [stB sn _, jB jn0 a.rn o.on J0, jB jn1 a.rn o.on J1])) (.grp takeG (.grp takeG (.blk takeC (.blk takeC (.blk takeC .nil))))) ⟨o1, jn0, jn1, a1, a2, .inr ⟨r1, rfl⟩, by rw [← hx0]⟩
  · have hQ : areas2G x.super ⟨s, J0, J1, y⟩ = (⟨⟨F.1, s.ts⟩, J0, J1, y⟩, F.2) := by
      unfold areas2G; rw [hfl, bd_pno p1]
    rw [hQ]
    simp only [if_neg p1]
    exact fin_g (A := rgM _ ++ (orcM o ++ [stB sn _, jB jn0 a.rn o.on J0, jB jn1 a.rn o.on J1])) (.grp takeG (.grp takeG (.blk takeC (.blk takeC (.blk takeC .nil))))) ⟨o, jn0, jn1, rfl, hts, .inr ⟨p1, rfl⟩, by rw [← hx0]⟩
end Go.Proofs.YtkjamonkohpcnaaGreat.Stg
/- A store on any rig: a sheet's blocks written to where they belong; which devices wait. -/
namespace Go.Proofs.YtkjamonkohpcnaaGreat.Stg
open Go Ev Sha Aes Orc Node Rec Chn Jrn Cau Sto Srt
open Rig (Fnc_takeR RigP Rg rgM readR writeR flushR setRegR z64 app_of tick comes write_ flush_ setreg_ mayE RigA)
open Tree (TreP TreA Tre treM shB mpB treC)
set_option linter.unusedVariables false
set_option linter.unusedSimpArgs false
set_option maxRecDepth 100000
attribute [local irreducible] dgV D jC wrF rcC stC regC RgV.lay rgM setRegR writeR rcP recB begJ beginG bare BareT setG treC flatV Instr.makeMap mapK Tree.vS
theorem sclear (sn mn : Nat) (l : List (Int × ByteArray)) : Fnc Tryz.prog 223 [pt sn] [shB sn mn, mpB mn l] (fun e A => ∃ m : Nat, e = .returned (.tuple #[]) ∧ A = [shB sn m, mpB m []]) := by
  refine fn_intro Tryz.func223 (by kernel_rfl) ?_
  repeat' ((conv => whnf); first
      | refine Ev.map_make kI (fun r => ?_)
      | refine st_lit rfl ?_
      | refine need (by first | rfl | omega) ?_)
  all_goals (conv => whnf)
  exact fin_g (A := [shB sn r, ⟨r, _⟩]) (.blk takeC (.blk takeC .nil)) ⟨r, rfl, by unfold mpB Tree.vS; rfl⟩
def TreA.wm (A : TreA) (m : Nat) : TreA := { A with mn := m }
def TreP.clr (t : TreP) : TreP := { t with sheet := [] }
theorem tdone (tn : Nat) (A : TreA) (t : TreP) : Fnc Tryz.prog 184 [pt tn] (treM tn ⟨A, t⟩) (fun e M => ∃ m : Nat, e = .returned (.tuple #[]) ∧ M = treM tn ⟨TreA.wm A m, TreP.clr t⟩) := by
  have h := sclear A.sn A.mn t.sheet
  unfold treM
  refine fn_intro Tryz.func184 (by kernel_rfl) ?_
  repeat' ((conv => whnf); first
      | refine ld1_row (n := tn) Tree.treC_s ?_
      | (refine call_g h (.blk takeC (.blk takeC .nil)) (fun e A' hq => ?_); obtain ⟨m, h1, h2⟩ := hq; subst h1; subst h2))
  all_goals (conv => whnf)
  exact fin_g (A := [⟨tn, _⟩, shB A.sn m, mpB m [], mpB A.kn t.known]) (.blk takeC (.blk takeC (.blk takeC (.blk takeC .nil)))) ⟨m, rfl, rfl⟩
/-- Blocks written to where they belong. -/
def hmS (d : Int) (l : List (Int × ByteArray)) : Nat → RigP → RigP × Int := fun i r => writeR r d ((l[i]?).getD (0, ByteArray.empty)).1 ((l[i]?).getD (0, ByteArray.empty)).2
def hmG (r : RigP) (d : Int) (l : List (Int × ByteArray)) : RigP × Int := lp (hmS d (srt l)) l.length 0 r
def HmQ (a : RigA) (q : RigP × Int) (sn tn : Nat) (x : StP) (A : TreA) (t : TreP) : Ending → List Blk → Prop := fun e M =>
  (q.2 = 0 ∧ ∃ m : Nat, e = .returned (.tuple #[]) ∧ M = rgM ⟨a, q.1⟩ ++ (stB sn x :: treM tn ⟨TreA.wm A m, TreP.clr t⟩)) ∨ (q.2 ≠ 0 ∧ e = .panicked (pe q.2) ∧ M = rgM ⟨a, q.1⟩ ++ (stB sn x :: treM tn ⟨A, t⟩))
def StP.tp (x : StP) (d : Int) : Option Addr := if d = 0 then x.t0 else x.t1
set_option maxHeartbeats 4000000 in
theorem homeg (a : RigA) (r : RigP) (sn tn : Nat) (x : StP) (d : Int) (A : TreA) (t : TreP) (hrn : x.rn = a.rn) (hd : d = 0 ∨ d = 1) (ht : StP.tp x d = some ⟨tn, 0, none⟩) (hn : (t.sheet.map (·.1)).Nodup) (h1 : 1 ≤ t.sheet.length) (h2 : t.sheet.length ≤ 1000) :
    Fnc Tryz.prog 128 [pt sn, .int .i64 d] (rgM ⟨a, r⟩ ++ (stB sn x :: treM tn ⟨A, t⟩)) (HmQ a (hmG r d t.sheet) sn tn x A t) := by
  have hsh := Tree.tsheet tn ⟨A, t⟩
  have hp := puts_ A.sn A.mn t.sheet hn h1 h2
  have hdn := tdone tn A t
  have hw := fun (r : RigP) (i : Int) (b : ByteArray) => write_ ⟨a, r⟩ d i b
  have hop : treM tn ⟨A, t⟩ = [Tree.tB tn A t.d t.root, shB A.sn A.mn, mpB A.mn t.sheet, mpB A.kn t.known] := rfl
  have hlen := srt_len t.sheet
  unfold HmQ hmG
  simp only [← hrn] at hw
  rw [hop] at hsh hdn ⊢
  have hw2 : ∀ (r : RigP) (i : Int) (b : ByteArray), Fnc Tryz.prog 92 [pt x.rn, .int .i64 d, .int .i64 i, .string b] (rgM ⟨a, r⟩) (Ret (.int .i64 (writeR r d i b).2) (rgM ⟨a, (writeR r d i b).1⟩)) := hw
  rcases hd with rfl | rfl
  all_goals
    refine fn_intro Tryz.func128 (by kernel_rfl) ?_
    repeat' ((conv => whnf); first
        | refine ld1_row (n := sn) stC_0 ?_
        | refine nv_eq (a := 6) rfl ?_
        | refine nv_eq (a := 8) rfl ?_
        | refine ld1_row (n := sn) (v := pt tn) (by rw [stC_7]; show some (Value.pointer (StP.tp x 0)) = _; rw [ht]) ?_
        | refine ld1_row (n := sn) (v := pt tn) (by rw [stC_9]; show some (Value.pointer (StP.tp x 1)) = _; rw [ht]) ?_
        | refine call_gr hsh (.blk takeC (.blk takeC (.blk takeC (.blk takeC .nil)))) ?_
        | (refine call_g hp (.blk takeC (.blk takeC .nil)) (fun e A' hq => ?_); obtain ⟨g, cap, jk, q1, q2⟩ := hq; subst q1; subst q2)
        | refine need (by first | rfl | omega) ?_)
    all_goals (conv => whnf)
  · refine loop_rule [22] (fun vs M m => ∃ (k : Nat) (r' : RigP), vs = [.int .i64 k] ∧ k ≤ t.sheet.length ∧ m = t.sheet.length - k ∧ lp (hmS 0 (srt t.sheet)) (t.sheet.length - k) k r' = lp (hmS 0 (srt t.sheet)) t.sheet.length 0 r ∧
      M = rgM ⟨a, r'⟩ ++ (stB sn x :: [Tree.tB tn A t.d t.root, shB A.sn A.mn, mpB A.mn t.sheet, mpB A.kn t.known, ⟨g, .row (flatV (srt t.sheet) ++ jk) 117⟩])) rfl ?_ ?_
    · exact fin_g (A := rgM _ ++ (stB sn x :: [Tree.tB tn A t.d t.root, shB A.sn A.mn, mpB A.mn t.sheet, mpB A.kn t.known, ⟨g, _⟩])) (.grp takeG (.blk takeC (.blk takeC (.blk takeC (.blk takeC (.blk takeC (.blk takeC .nil))))))) ⟨_, 0, r, rfl, by omega, rfl, rfl, rfl⟩
    rintro vs junk M' m ⟨k, r', rfl, hk, rfl, hR, rfl⟩
    by_cases hk6 : k < t.sheet.length
    · have hks : k < (srt t.sheet).length := by omega
      have hg := Rec.flat_at (junk := jk) hks
      have hF : hmS 0 (srt t.sheet) k r' = writeR r' 0 ((srt t.sheet)[k]).1 ((srt t.sheet)[k]).2 := by unfold hmS; rw [List.getElem?_eq_getElem hks]; rfl
      have hf2 := hw2 r' ((srt t.sheet)[k]).1 ((srt t.sheet)[k]).2
      rw [← hF] at hf2
      rw [show t.sheet.length - k = t.sheet.length - (k + 1) + 1 by omega] at hR
      repeat' ((conv => whnf); first
          | (refine nv (fun z hz => ?_); (try simp at hz); replace hz := hz.symm; subst hz)
          | refine need (by omega) ?_
          | refine ldN_row (n := g) _ hg rfl ?_
          | refine nw (fun pn => ?_)
          | refine call_gr hf2 (.one takeG) ?_
          | (refine call_g (must_any _) .nil (fun e A' hq => ?_); obtain ⟨p0, ⟨p1, p2⟩ | ⟨p1, p2⟩⟩ := hq <;> subst p2 <;> subst p0)
          | refine ld1_lit ?_
          | refine st_lit rfl ?_
          | refine need (by first | rfl | omega) ?_
          | (refine wr (fun z hz => ?_); (try rw [Int.tdiv_eq_ediv_of_nonneg (by omega)] at hz); rw [w64 (by omega) (by omega)] at hz; subst hz)
          | (refine ifs (fun h => ?_) (fun h => ?_) <;> (try (exfalso; first | omega | with_reducible contradiction | with_reducible exact h rfl))))
      all_goals (conv => whnf)
      · rw [lp_ok p1] at hR
        exact ⟨rfl, fin_g (A := rgM _ ++ (stB sn x :: [Tree.tB tn A t.d t.root, shB A.sn A.mn, mpB A.mn t.sheet, mpB A.kn t.known, ⟨g, _⟩])) (.grp takeG (.blk takeC (.blk takeC (.blk takeC (.blk takeC (.blk takeC (.blk takeC .nil))))))) ⟨t.sheet.length - (k + 1), by omega, k + 1, _, rfl, by omega, rfl, hR, rfl⟩⟩
      · rw [lp_no p1] at hR
        rw [← hR]
        exact fin_g (A := rgM _ ++ (stB sn x :: [Tree.tB tn A t.d t.root, shB A.sn A.mn, mpB A.mn t.sheet, mpB A.kn t.known])) (.grp takeG (.blk takeC (.blk takeC (.blk takeC (.blk takeC (.blk takeC .nil)))))) (.inr ⟨p1, rfl, rfl⟩)
    obtain rfl : k = t.sheet.length := by omega
    rw [Nat.sub_self, lp_0] at hR
    repeat' ((conv => whnf); first
        | refine nv_eq (a := 6) rfl ?_
        | refine ld1_row (n := sn) (v := pt tn) (by rw [stC_7]; show some (Value.pointer (StP.tp x 0)) = _; rw [ht]) ?_
        | (refine call_g hdn (.blk takeC (.blk takeC (.blk takeC (.blk takeC .nil)))) (fun e A' hq => ?_); obtain ⟨m, q1, q2⟩ := hq; subst q1; subst q2)
        | refine need (by first | rfl | omega) ?_
        | (refine ifs (fun h => ?_) (fun h => ?_) <;> (try (exfalso; first | omega | with_reducible contradiction | with_reducible exact h rfl))))
    all_goals (conv => whnf)
    rw [← hR]
    exact fin_g (A := rgM _ ++ (stB sn x :: treM tn ⟨TreA.wm A m, TreP.clr t⟩)) (.grp takeG (.blk takeC (.one takeG))) (.inl ⟨rfl, m, rfl, rfl⟩)
  · refine loop_rule [22] (fun vs M m => ∃ (k : Nat) (r' : RigP), vs = [.int .i64 k] ∧ k ≤ t.sheet.length ∧ m = t.sheet.length - k ∧ lp (hmS 1 (srt t.sheet)) (t.sheet.length - k) k r' = lp (hmS 1 (srt t.sheet)) t.sheet.length 0 r ∧
      M = rgM ⟨a, r'⟩ ++ (stB sn x :: [Tree.tB tn A t.d t.root, shB A.sn A.mn, mpB A.mn t.sheet, mpB A.kn t.known, ⟨g, .row (flatV (srt t.sheet) ++ jk) 117⟩])) rfl ?_ ?_
    · exact fin_g (A := rgM _ ++ (stB sn x :: [Tree.tB tn A t.d t.root, shB A.sn A.mn, mpB A.mn t.sheet, mpB A.kn t.known, ⟨g, _⟩])) (.grp takeG (.blk takeC (.blk takeC (.blk takeC (.blk takeC (.blk takeC (.blk takeC .nil))))))) ⟨_, 0, r, rfl, by omega, rfl, rfl, rfl⟩
    rintro vs junk M' m ⟨k, r', rfl, hk, rfl, hR, rfl⟩
    by_cases hk6 : k < t.sheet.length
    · have hks : k < (srt t.sheet).length := by omega
      have hg := Rec.flat_at (junk := jk) hks
      have hF : hmS 1 (srt t.sheet) k r' = writeR r' 1 ((srt t.sheet)[k]).1 ((srt t.sheet)[k]).2 := by unfold hmS; rw [List.getElem?_eq_getElem hks]; rfl
      have hf2 := hw2 r' ((srt t.sheet)[k]).1 ((srt t.sheet)[k]).2
      rw [← hF] at hf2
      rw [show t.sheet.length - k = t.sheet.length - (k + 1) + 1 by omega] at hR
      repeat' ((conv => whnf); first
          | (refine nv (fun z hz => ?_); (try simp at hz); replace hz := hz.symm; subst hz)
          | refine need (by omega) ?_
          | refine ldN_row (n := g) _ hg rfl ?_
          | refine nw (fun pn => ?_)
          | refine call_gr hf2 (.one takeG) ?_
          | (refine call_g (must_any _) .nil (fun e A' hq => ?_); obtain ⟨p0, ⟨p1, p2⟩ | ⟨p1, p2⟩⟩ := hq <;> subst p2 <;> subst p0)
          | refine ld1_lit ?_
          | refine st_lit rfl ?_
          | refine need (by first | rfl | omega) ?_
          | (refine wr (fun z hz => ?_); (try rw [Int.tdiv_eq_ediv_of_nonneg (by omega)] at hz); rw [w64 (by omega) (by omega)] at hz; subst hz)
          | (refine ifs (fun h => ?_) (fun h => ?_) <;> (try (exfalso; first | omega | with_reducible contradiction | with_reducible exact h rfl))))
      all_goals (conv => whnf)
      · rw [lp_ok p1] at hR
        exact ⟨rfl, fin_g (A := rgM _ ++ (stB sn x :: [Tree.tB tn A t.d t.root, shB A.sn A.mn, mpB A.mn t.sheet, mpB A.kn t.known, ⟨g, _⟩])) (.grp takeG (.blk takeC (.blk takeC (.blk takeC (.blk takeC (.blk takeC (.blk takeC .nil))))))) ⟨t.sheet.length - (k + 1), by omega, k + 1, _, rfl, by omega, rfl, hR, rfl⟩⟩
      · rw [lp_no p1] at hR
        rw [← hR]
        exact fin_g (A := rgM _ ++ (stB sn x :: [Tree.tB tn A t.d t.root, shB A.sn A.mn, mpB A.mn t.sheet, mpB A.kn t.known])) (.grp takeG (.blk takeC (.blk takeC (.blk takeC (.blk takeC (.blk takeC .nil)))))) (.inr ⟨p1, rfl, rfl⟩)
    obtain rfl : k = t.sheet.length := by omega
    rw [Nat.sub_self, lp_0] at hR
    repeat' ((conv => whnf); first
        | refine nv_eq (a := 8) rfl ?_
        | refine ld1_row (n := sn) (v := pt tn) (by rw [stC_9]; show some (Value.pointer (StP.tp x 1)) = _; rw [ht]) ?_
        | (refine call_g hdn (.blk takeC (.blk takeC (.blk takeC (.blk takeC .nil)))) (fun e A' hq => ?_); obtain ⟨m, q1, q2⟩ := hq; subst q1; subst q2)
        | refine need (by first | rfl | omega) ?_
        | (refine ifs (fun h => ?_) (fun h => ?_) <;> (try (exfalso; first | omega | with_reducible contradiction | with_reducible exact h rfl))))
    all_goals (conv => whnf)
    rw [← hR]
    exact fin_g (A := rgM _ ++ (stB sn x :: treM tn ⟨TreA.wm A m, TreP.clr t⟩)) (.grp takeG (.blk takeC (.one takeG))) (.inl ⟨rfl, m, rfl, rfl⟩)
end Go.Proofs.YtkjamonkohpcnaaGreat.Stg
/- A store on any rig: which devices wait. -/
namespace Go.Proofs.YtkjamonkohpcnaaGreat.Stg
open Go Ev Sha Aes Orc Node Rec Chn Jrn Cau Sto Srt
open Rig (Fnc_takeR RigP Rg rgM readR writeR flushR setRegR z64 app_of tick comes write_ flush_ setreg_ mayE RigA)
open Tree (TreP TreA Tre treM shB mpB treC)
set_option linter.unusedVariables false
set_option linter.unusedSimpArgs false
set_option maxRecDepth 100000
attribute [local irreducible] dgV D jC wrF rcC stC regC RgV.lay rgM setRegR writeR rcP recB begJ beginG bare BareT setG treC flatV Builtin.append_ Builtin.len_
abbrev lJ (ln : Nat) (l : List Nat) (jk : List Value) : Blk := ⟨ln, .row ((l.map fun d => .int .i64 (d : Nat)) ++ jk) 3⟩
theorem lJ_get {l : List Nat} {k : Nat} (h : k < l.length) (jk : List Value) : ((l.map fun d => Value.int .i64 (d : Nat)) ++ jk)[k]? = some (.int .i64 (l[k] : Nat)) := by
  rw [List.getElem?_append_left (by rw [List.length_map]; exact h), List.getElem?_map, List.getElem?_eq_getElem h]; rfl
theorem flushj (a : RigA) (r : RigP) (sn ln c : Nat) (x : StP) (l : List Nat) (jk : List Value) (hrn : x.rn = a.rn) (hl : l.length ≤ 2) :
    Fnc Tryz.prog 95 [pt sn, .slice (some ⟨ln, 0, none⟩) l.length c] (rgM ⟨a, r⟩ ++ [stB sn x, lJ ln l jk])
      (fun e M => Pe (lp (flG l) l.length 0 r).2 e ∧ M = rgM ⟨a, (lp (flG l) l.length 0 r).1⟩ ++ [stB sn x, lJ ln l jk]) := by
  have hf := fun (r : RigP) (d : Nat) => flush_ ⟨a, r⟩ d
  simp only [← hrn] at hf
  refine fn_intro Tryz.func95 (by kernel_rfl) ?_
  repeat' ((conv => whnf); first
      | fail)
  all_goals (conv => whnf)
  refine loop_rule [8] (fun vs M m => ∃ (k : Nat) (r' : RigP), vs = [.int .i64 k] ∧ k ≤ l.length ∧ m = l.length - k ∧ lp (flG l) (l.length - k) k r' = lp (flG l) l.length 0 r ∧ M = rgM ⟨a, r'⟩ ++ [stB sn x, lJ ln l jk]) rfl ?_ ?_
  · exact fin_all ⟨_, 0, r, rfl, by omega, rfl, by rw [Nat.sub_zero], rfl⟩
  rintro vs junk M' m ⟨k, r', rfl, hk, rfl, hR, rfl⟩
  by_cases hk6 : k < l.length
  · have hg := lJ_get hk6 jk
    have hF : flG l k r' = flushR r' (l[k] : Nat) := by unfold flG; rw [List.getElem?_eq_getElem hk6]; rfl
    have hf2 := hf r' l[k]
    rw [← hF] at hf2
    rw [show l.length - k = l.length - (k + 1) + 1 by omega] at hR
    repeat' ((conv => whnf); first
        | (refine nv (fun z hz => ?_); (try simp at hz); replace hz := hz.symm; subst hz)
        | refine need (by simp; omega) ?_
        | refine ld1_row hg ?_
        | refine ld1_row (n := sn) stC_0 ?_
        | refine call_gr hf2 (.one takeG) ?_
        | (refine call_g (must_any _) .nil (fun e A' hq => ?_); obtain ⟨p0, ⟨p1, p2⟩ | ⟨p1, p2⟩⟩ := hq <;> subst p2 <;> subst p0)
        | (refine wr (fun z hz => ?_); (try rw [Int.tdiv_eq_ediv_of_nonneg (by omega)] at hz); rw [w64 (by omega) (by omega)] at hz; subst hz)
        | (refine ifs (fun h => ?_) (fun h => ?_) <;> (try (exfalso; first | omega | with_reducible contradiction | with_reducible exact h rfl))))
    all_goals (conv => whnf)
    · rw [lp_ok p1] at hR
      exact ⟨rfl, fin_g (A := rgM _ ++ [stB sn x, _]) (.grp takeG (.blk takeC (.blk takeC .nil))) ⟨l.length - (k + 1), by omega, k + 1, _, rfl, by omega, rfl, hR, rfl⟩⟩
    · rw [lp_no p1] at hR
      rw [← hR]
      exact fin_g (A := rgM _ ++ [stB sn x, _]) (.grp takeG (.blk takeC (.blk takeC .nil))) ⟨.inr ⟨p1, rfl⟩, rfl⟩
  obtain rfl : k = l.length := by omega
  rw [Nat.sub_self, lp_0] at hR
  repeat' ((conv => whnf); first
      | (refine ifs (fun h => ?_) (fun h => ?_) <;> (try (exfalso; first | omega | with_reducible contradiction | with_reducible exact h rfl))))
  all_goals (conv => whnf)
  rw [← hR]
  exact fin_all ⟨.inl ⟨rfl, rfl⟩, rfl⟩
instance (priority := high) ZipO_nil {M : List Blk} {e : TypeId} {xs : List Value} : ZipO M .nil e xs (fun l => l ++ M) := ⟨⟨[], M, rfl, fun _ => rfl⟩⟩
instance (priority := high) ZipO_at {M : List Blk} {g cap : Nat} {jk : List Value} {e : TypeId} {xs : List Value} : ZipO (⟨g, .row (xs ++ jk) e⟩ :: M) (.at_ g cap jk) e xs (fun l => l ++ M) := ⟨⟨[], M, rfl, fun _ => rfl⟩⟩
theorem tlen (tn : Nat) (A : TreA) (t : TreP) : Fnc Tryz.prog 120 [pt A.sn] (treM tn ⟨A, t⟩) (Ret (.int .i64 t.sheet.length) (treM tn ⟨A, t⟩)) := by
  have h := Tree.slen A.sn A.mn t.sheet
  unfold treM
  exact Fnc_drop (Fnc_takeR h (.blk takeC (.blk takeC .nil))) fun e A' ⟨h1, h2⟩ => by subst h2; exact ⟨⟨_, [], by rw [List.append_nil]; exact (TakesG.perm (M := [_, _, _, _]) (.blk takeC (.blk takeC .nil))).symm, h1, rfl⟩⟩
/-- Which of two devices wait. -/
def wtL (n0 n1 : Nat) : List Nat := if n0 = 0 then (if n1 = 0 then [] else [1]) else (if n1 = 0 then [0] else [0, 1])
def WtQ (l : List Nat) (M : List Blk) : Ending → List Blk → Prop := fun e M' => (l = [] ∧ e = .returned (.slice none 0 0) ∧ M' = M) ∨ (l ≠ [] ∧ ∃ (ln c : Nat) (jk : List Value), e = .returned (.slice (some ⟨ln, 0, none⟩) l.length c) ∧ M' = M ++ [lJ ln l jk])
set_option maxHeartbeats 1000000 in
theorem waitA (sn tn0 tn1 : Nat) (x : StP) (A0 A1 : TreA) (t0 t1 : TreP) (hat : x.is.at_ = true) (ht0 : x.t0 = some ⟨tn0, 0, none⟩) (ht1 : x.t1 = some ⟨tn1, 0, none⟩) (hn : t0.sheet.length = 0) (hm : t1.sheet.length = 0) :
    Fnc Tryz.prog 117 [pt sn] (stB sn x :: (treM tn0 ⟨A0, t0⟩ ++ treM tn1 ⟨A1, t1⟩)) (WtQ [] (stB sn x :: (treM tn0 ⟨A0, t0⟩ ++ treM tn1 ⟨A1, t1⟩))) := by
  have h1 := devices_ sn x hat
  have h2 := Tree.tsheet tn0 ⟨A0, t0⟩
  have h3 := tlen tn0 A0 t0
  have h4 := Tree.tsheet tn1 ⟨A1, t1⟩
  have h5 := tlen tn1 A1 t1
  refine fn_intro Tryz.func117 (by kernel_rfl) ?_
  repeat' ((conv => whnf); first
      | (refine call_g h1 (.blk takeC .nil) (fun e A' hq => ?_); obtain ⟨n, q1, q2⟩ := hq; subst q1; subst q2)
      | refine loop_n 3 ?_
      | refine nv_eq (a := 0) rfl ?_
      | refine nv_eq (a := 1) rfl ?_
      | refine nv_eq (a := 6) rfl ?_
      | refine nv_eq (a := 8) rfl ?_
      | refine ld1_row (n := sn) (v := pt tn0) (by rw [stC_7, ht0]) ?_
      | refine ld1_row (n := sn) (v := pt tn1) (by rw [stC_9, ht1]) ?_
      | refine call_gr h2 (.one takeG) ?_
      | refine call_gr h3 (.one takeG) ?_
      | refine call_gr h4 (.one takeG) ?_
      | refine call_gr h5 (.one takeG) ?_
      | refine ld1_lit ?_
      | refine need (by first | rfl | omega) ?_
      | (refine wr (fun z hz => ?_); (try rw [Int.tdiv_eq_ediv_of_nonneg (by omega)] at hz); rw [w64 (by omega) (by omega)] at hz; subst hz)
      | (refine ifs (fun h => ?_) (fun h => ?_) <;> (try (exfalso; first | omega | with_reducible contradiction | with_reducible exact h rfl))))
  all_goals (conv => whnf)
  exact fin_g (A := stB sn x :: (treM tn0 ⟨A0, t0⟩ ++ treM tn1 ⟨A1, t1⟩)) (.blk takeC (.grp takeG (.one takeG))) (.inl ⟨rfl, rfl, rfl⟩)
set_option maxHeartbeats 1000000 in
theorem waitB (sn tn0 tn1 : Nat) (x : StP) (A0 A1 : TreA) (t0 t1 : TreP) (hat : x.is.at_ = true) (ht0 : x.t0 = some ⟨tn0, 0, none⟩) (ht1 : x.t1 = some ⟨tn1, 0, none⟩) (hn : t0.sheet.length = 0) (hm : t1.sheet.length ≠ 0) :
    Fnc Tryz.prog 117 [pt sn] (stB sn x :: (treM tn0 ⟨A0, t0⟩ ++ treM tn1 ⟨A1, t1⟩)) (WtQ [1] (stB sn x :: (treM tn0 ⟨A0, t0⟩ ++ treM tn1 ⟨A1, t1⟩))) := by
  have h1 := devices_ sn x hat
  have h2 := Tree.tsheet tn0 ⟨A0, t0⟩
  have h3 := tlen tn0 A0 t0
  have h4 := Tree.tsheet tn1 ⟨A1, t1⟩
  have h5 := tlen tn1 A1 t1
  refine fn_intro Tryz.func117 (by kernel_rfl) ?_
  repeat' ((conv => whnf); first
      | (refine call_g h1 (.blk takeC .nil) (fun e A' hq => ?_); obtain ⟨n, q1, q2⟩ := hq; subst q1; subst q2)
      | refine loop_n 3 ?_
      | refine nv_eq (a := 0) rfl ?_
      | refine nv_eq (a := 1) rfl ?_
      | refine nv_eq (a := 6) rfl ?_
      | refine nv_eq (a := 8) rfl ?_
      | refine ld1_row (n := sn) (v := pt tn0) (by rw [stC_7, ht0]) ?_
      | refine ld1_row (n := sn) (v := pt tn1) (by rw [stC_9, ht1]) ?_
      | refine call_gr h2 (.one takeG) ?_
      | refine call_gr h3 (.one takeG) ?_
      | refine call_gr h4 (.one takeG) ?_
      | refine call_gr h5 (.one takeG) ?_
      | (refine app_cells (S := Own.nil) (n := 0) (m := 1) (e := 3) (xs := []) (news := [.int .i64 1]) rfl rfl rfl rfl rfl ⟨rfl, rfl⟩ rfl (by intro u hu; simp only [List.mem_singleton] at hu; subst hu; rfl) (by decide) (by decide) cells_at (fun S1 hS1 => ?_); rcases S1 with _ | ⟨g1, cap1, jk1⟩; · exact absurd hS1.2 (by decide))
      | refine ld1_lit ?_
      | refine nw (fun n => ?_)
      | refine bld ?_
      | refine need (by first | rfl | omega) ?_
      | (refine wr (fun z hz => ?_); (try rw [Int.tdiv_eq_ediv_of_nonneg (by omega)] at hz); rw [w64 (by omega) (by omega)] at hz; subst hz)
      | (refine ifs (fun h => ?_) (fun h => ?_) <;> (try (exfalso; first | omega | with_reducible contradiction | with_reducible exact h rfl))))
  all_goals (conv => whnf)
  exact fin_g (A := stB sn x :: (treM tn0 ⟨A0, t0⟩ ++ (treM tn1 ⟨A1, t1⟩ ++ (Own.at_ g1 cap1 jk1).blk 3 ([] ++ [Value.int IntKind.i64 1])))) (.blk takeC (.grp takeG (.grp takeG (.one takeE)))) (.inr ⟨by simp, g1, cap1, jk1, rfl, by rw [List.cons_append, List.append_assoc]; rfl⟩)
set_option maxHeartbeats 1000000 in
theorem waitC (sn tn0 tn1 : Nat) (x : StP) (A0 A1 : TreA) (t0 t1 : TreP) (hat : x.is.at_ = true) (ht0 : x.t0 = some ⟨tn0, 0, none⟩) (ht1 : x.t1 = some ⟨tn1, 0, none⟩) (hn : t0.sheet.length ≠ 0) (hm : t1.sheet.length = 0) :
    Fnc Tryz.prog 117 [pt sn] (stB sn x :: (treM tn0 ⟨A0, t0⟩ ++ treM tn1 ⟨A1, t1⟩)) (WtQ [0] (stB sn x :: (treM tn0 ⟨A0, t0⟩ ++ treM tn1 ⟨A1, t1⟩))) := by
  have h1 := devices_ sn x hat
  have h2 := Tree.tsheet tn0 ⟨A0, t0⟩
  have h3 := tlen tn0 A0 t0
  have h4 := Tree.tsheet tn1 ⟨A1, t1⟩
  have h5 := tlen tn1 A1 t1
  refine fn_intro Tryz.func117 (by kernel_rfl) ?_
  repeat' ((conv => whnf); first
      | (refine call_g h1 (.blk takeC .nil) (fun e A' hq => ?_); obtain ⟨n, q1, q2⟩ := hq; subst q1; subst q2)
      | refine loop_n 3 ?_
      | refine nv_eq (a := 0) rfl ?_
      | refine nv_eq (a := 1) rfl ?_
      | refine nv_eq (a := 6) rfl ?_
      | refine nv_eq (a := 8) rfl ?_
      | refine ld1_row (n := sn) (v := pt tn0) (by rw [stC_7, ht0]) ?_
      | refine ld1_row (n := sn) (v := pt tn1) (by rw [stC_9, ht1]) ?_
      | refine call_gr h2 (.one takeG) ?_
      | refine call_gr h3 (.one takeG) ?_
      | refine call_gr h4 (.one takeG) ?_
      | refine call_gr h5 (.one takeG) ?_
      | (refine app_cells (S := Own.nil) (n := 0) (m := 1) (e := 3) (xs := []) (news := [.int .i64 0]) rfl rfl rfl rfl rfl ⟨rfl, rfl⟩ rfl (by intro u hu; simp only [List.mem_singleton] at hu; subst hu; rfl) (by decide) (by decide) cells_at (fun S1 hS1 => ?_); rcases S1 with _ | ⟨g1, cap1, jk1⟩; · exact absurd hS1.2 (by decide))
      | refine ld1_lit ?_
      | refine nw (fun n => ?_)
      | refine bld ?_
      | refine need (by first | rfl | omega) ?_
      | (refine wr (fun z hz => ?_); (try rw [Int.tdiv_eq_ediv_of_nonneg (by omega)] at hz); rw [w64 (by omega) (by omega)] at hz; subst hz)
      | (refine ifs (fun h => ?_) (fun h => ?_) <;> (try (exfalso; first | omega | with_reducible contradiction | with_reducible exact h rfl))))
  all_goals (conv => whnf)
  exact fin_g (A := stB sn x :: (treM tn0 ⟨A0, t0⟩ ++ (treM tn1 ⟨A1, t1⟩ ++ (Own.at_ g1 cap1 jk1).blk 3 ([] ++ [Value.int IntKind.i64 0])))) (.blk takeC (.grp takeG (.grp takeG (.one takeE)))) (.inr ⟨by simp, g1, cap1, jk1, rfl, by rw [List.cons_append, List.append_assoc]; rfl⟩)
set_option maxHeartbeats 1000000 in
theorem waitD (sn tn0 tn1 : Nat) (x : StP) (A0 A1 : TreA) (t0 t1 : TreP) (hat : x.is.at_ = true) (ht0 : x.t0 = some ⟨tn0, 0, none⟩) (ht1 : x.t1 = some ⟨tn1, 0, none⟩) (hn : t0.sheet.length ≠ 0) (hm : t1.sheet.length ≠ 0) :
    Fnc Tryz.prog 117 [pt sn] (stB sn x :: (treM tn0 ⟨A0, t0⟩ ++ treM tn1 ⟨A1, t1⟩)) (WtQ [0, 1] (stB sn x :: (treM tn0 ⟨A0, t0⟩ ++ treM tn1 ⟨A1, t1⟩))) := by
  have h1 := devices_ sn x hat
  have h2 := Tree.tsheet tn0 ⟨A0, t0⟩
  have h3 := tlen tn0 A0 t0
  have h4 := Tree.tsheet tn1 ⟨A1, t1⟩
  have h5 := tlen tn1 A1 t1
  refine fn_intro Tryz.func117 (by kernel_rfl) ?_
  repeat' ((conv => whnf); first
      | (refine call_g h1 (.blk takeC .nil) (fun e A' hq => ?_); obtain ⟨n, q1, q2⟩ := hq; subst q1; subst q2)
      | refine loop_n 3 ?_
      | refine nv_eq (a := 0) rfl ?_
      | refine nv_eq (a := 1) rfl ?_
      | refine nv_eq (a := 6) rfl ?_
      | refine nv_eq (a := 8) rfl ?_
      | refine ld1_row (n := sn) (v := pt tn0) (by rw [stC_7, ht0]) ?_
      | refine ld1_row (n := sn) (v := pt tn1) (by rw [stC_9, ht1]) ?_
      | refine call_gr h2 (.one takeG) ?_
      | refine call_gr h3 (.one takeG) ?_
      | refine call_gr h4 (.one takeG) ?_
      | refine call_gr h5 (.one takeG) ?_
      | (refine app_cells (S := Own.nil) (n := 0) (m := 1) (e := 3) (xs := []) (news := [.int .i64 0]) rfl rfl rfl rfl rfl ⟨rfl, rfl⟩ rfl (by intro u hu; simp only [List.mem_singleton] at hu; subst hu; rfl) (by decide) (by decide) cells_at (fun S1 hS1 => ?_); rcases S1 with _ | ⟨g1, cap1, jk1⟩; · exact absurd hS1.2 (by decide))
      | (refine app_cells (S := Own.at_ g1 cap1 jk1) (n := 0 + 1) (m := 1) (e := 3) (xs := [] ++ [Value.int IntKind.i64 0]) (news := [.int .i64 1]) rfl rfl rfl rfl rfl hS1 rfl (by intro u hu; simp only [List.mem_singleton] at hu; subst hu; rfl) (by decide) (by decide) cells_at (fun S2 hS2 => ?_); rcases S2 with _ | ⟨g2, cap2, jk2⟩; · exact absurd hS2.2 (by decide))
      | refine ld1_lit ?_
      | refine nw (fun n => ?_)
      | refine bld ?_
      | refine need (by first | rfl | omega) ?_
      | (refine wr (fun z hz => ?_); (try rw [Int.tdiv_eq_ediv_of_nonneg (by omega)] at hz); rw [w64 (by omega) (by omega)] at hz; subst hz)
      | (refine ifs (fun h => ?_) (fun h => ?_) <;> (try (exfalso; first | omega | with_reducible contradiction | with_reducible exact h rfl))))
  all_goals (conv => whnf)
  exact fin_g (A := stB sn x :: (treM tn0 ⟨A0, t0⟩ ++ (treM tn1 ⟨A1, t1⟩ ++ (Own.at_ g2 cap2 jk2).blk 3 (([] ++ [Value.int IntKind.i64 0]) ++ [Value.int IntKind.i64 1])))) (.blk takeC (.grp takeG (.grp takeG (.one takeE)))) (.inr ⟨by simp, g2, cap2, jk2, rfl, by rw [List.cons_append, List.append_assoc]; rfl⟩)
theorem waiting1 (sn tn0 tn1 : Nat) (x : StP) (A0 A1 : TreA) (t0 t1 : TreP) (hat : x.is.at_ = true) (ht0 : x.t0 = some ⟨tn0, 0, none⟩) (ht1 : x.t1 = some ⟨tn1, 0, none⟩) :
    Fnc Tryz.prog 117 [pt sn] (stB sn x :: (treM tn0 ⟨A0, t0⟩ ++ treM tn1 ⟨A1, t1⟩))
      (WtQ (wtL t0.sheet.length t1.sheet.length) (stB sn x :: (treM tn0 ⟨A0, t0⟩ ++ treM tn1 ⟨A1, t1⟩))) := by
  unfold wtL
  by_cases hn : t0.sheet.length = 0
  · by_cases hm : t1.sheet.length = 0
    · rw [if_pos hn, if_pos hm]; exact waitA sn tn0 tn1 x A0 A1 t0 t1 hat ht0 ht1 hn hm
    · rw [if_pos hn, if_neg hm]; exact waitB sn tn0 tn1 x A0 A1 t0 t1 hat ht0 ht1 hn hm
  · by_cases hm : t1.sheet.length = 0
    · rw [if_neg hn, if_pos hm]; exact waitC sn tn0 tn1 x A0 A1 t0 t1 hat ht0 ht1 hn hm
    · rw [if_neg hn, if_neg hm]; exact waitD sn tn0 tn1 x A0 A1 t0 t1 hat ht0 ht1 hn hm
end Go.Proofs.YtkjamonkohpcnaaGreat.Stg
/- A store on any rig: a commit of nothing but what the register is to say. -/
namespace Go.Proofs.YtkjamonkohpcnaaGreat.Stg
open Go Ev Sha Aes Orc Node Rec Chn Jrn Cau Sto Srt
open Rig (Fnc_takeR RigP Rg rgM readR writeR flushR setRegR z64 app_of tick comes write_ flush_ setreg_ mayE RigA)
open Tree (TreP TreA Tre treM shB mpB treC)
set_option linter.unusedVariables false
set_option linter.unusedSimpArgs false
set_option maxRecDepth 100000
theorem fagg_eql {P : Program} {RO M : List Blk} {k : Kv} {o : Oper} {fr : List Value} {x y : Operand} {t s : TypeId} {xs ys : List Value} {d : Nat} {ks : List Kd} (hk : kindsOf P d t = some ks) (hd : d ≤ 10000) (ho : o.op = .binOp .eql t x y s) (hx : Act.eval ⟨fr.toArray, []⟩ x = .agg xs.toArray) (hy : Act.eval ⟨fr.toArray, []⟩ y = .agg ys.toArray)
    (hm : isAggT P t = true) (hg : P.eqGuardType P.depth t = false) (fx : Fits ks xs) (fy : Fits ks ys) (h : If (xs = ys) (k (.bool true) M) (k (.bool false) M)) : FRuns P RO (execOp (Act.eval ⟨fr.toArray, []⟩) o) M k := by
  obtain ⟨r, h1, h2⟩ := eql_run ho hx hy hm hg hk hd fx fy
  exact (fl_sound P RO).val (pan := fun _ _ => False) _ h1 (if_bool (K := fun b => k (.bool b) M) h2 h)
def RgV.dm (x y : RgV) : RgV := { x with dirty := y.dirty, mode := y.mode }
abbrev kdR : List Kd := List.replicate 64 (.int .u8) ++ List.replicate 8 (.int .i64) ++ [.bool]
theorem kRegS : kindsOf Tryz.prog 6 34 = some kdR := by kernel_rfl
theorem fRegS (x : RgV) : Fits kdR (regC x) := by
  unfold regC
  repeat' first | exact trivial | (refine ⟨⟨_, rfl⟩, ?_⟩)
theorem regC_s70 {y : RgV} {v : Int} : (regC y).set 70 (.int .i64 v) = regC { y with dirty := v } := rfl
theorem regC_s71 {y : RgV} {v : Int} : (regC y).set 71 (.int .i64 v) = regC { y with mode := v } := rfl
theorem stC_nd {x : StP} : (stC x)[153]? = some (.int .i64 x.next.dirty) := rfl
theorem stC_nm {x : StP} : (stC x)[154]? = some (.int .i64 x.next.mode) := rfl
section
variable {P : Program} {M : List Blk} {n : Nat} {y : RgV} {T : TypeId} {f : Blk → List Blk} {k : List Blk → Prop} [z : Zip M n (.row (regC y) T) f]
theorem st_r70 {v : Int} (hk : k (f ⟨n, .row (regC { y with dirty := v }) T⟩)) : StN P M n 70 [.int .i64 v] k := st_row rfl (by rw [regC_len]; omega) (by rw [regC_s70]; exact hk)
theorem st_r71 {v : Int} (hk : k (f ⟨n, .row (regC { y with mode := v }) T⟩)) : StN P M n 71 [.int .i64 v] k := st_row rfl (by rw [regC_len]; omega) (by rw [regC_s71]; exact hk)
end
attribute [local irreducible] dgV D jC wrF rcC stC regC RgV.lay rgM setRegR writeR rcP recB begJ beginG bare BareT setG treC flatV Builtin.append_ Builtin.len_
/-- set, told in two endings. -/
theorem setg2 (a : RigA) (r : RigP) (sn : Nat) (x : StP) (y : RgV) (hrn : x.rn = a.rn) :
    Fnc Tryz.prog 96 [pt sn, .agg (regC y).toArray] (rgM ⟨a, r⟩ ++ [stB sn x])
      (fun e M => ((setG r y).2 = 0 ∧ e = .returned (.tuple #[]) ∧ M = rgM ⟨a, (setG r y).1⟩ ++ [stB sn { x with is := y }]) ∨ ((setG r y).2 ≠ 0 ∧ e = .panicked (pe (setG r y).2) ∧ M = rgM ⟨a, (setG r y).1⟩ ++ [stB sn x])) := by
  refine Fnc_mono (setg a r sn x y hrn) ?_
  rintro e M ⟨⟨h1, h2⟩ | ⟨h1, h2⟩, h3⟩
  · rw [if_pos h1] at h3; exact .inl ⟨h1, h2, h3⟩
  · rw [if_neg h1] at h3; exact .inr ⟨h1, h2, h3⟩
theorem flush0 (sn : Nat) : Fnc Tryz.prog 95 [pt sn, .slice none 0 0] [] (Ret (.tuple #[]) []) := by
  refine fn_intro Tryz.func95 (by kernel_rfl) ?_
  repeat' ((conv => whnf); first
      | refine loop_n 1 ?_
      | (refine ifs (fun h => ?_) (fun h => ?_) <;> (try (exfalso; first | omega | with_reducible contradiction | with_reducible exact h rfl))))
  all_goals (conv => whnf)
  all_goals exact fin_nil ⟨rfl, rfl⟩
theorem commit_eq (sn : Nat) (x : StP) (R : List Blk) (hw : Fnc Tryz.prog 117 [pt sn] (stB sn x :: R) (Ret (.slice none 0 0) (stB sn x :: R))) (he : regC x.next = regC x.is) :
    Fnc Tryz.prog 61 [pt sn] (stB sn x :: R) (Ret (.tuple #[]) (stB sn x :: R)) := by
  refine fn_intro Tryz.func61 (by kernel_rfl) ?_
  repeat' ((conv => whnf); first
      | refine Tree.scope_rule ?_
      | refine call_gr hw takesG_all ?_
      | refine nw_row (cs' := regC rg0) rg0_e (fun xn => ?_)
      | refine draw_any 2 [(0, true), (1, true), (2, true), (3, true), (4, true), (5, true), (6, true), (8, true), (9, true), (10, true), (7, true), (11, false), (12, true), (13, true)] [⟨sn, _⟩] rfl (by kernel_rfl) (kept_of (.cons takeC .nil) ?_)
      | refine kept_of (.cons takeC .nil) ?_
      | refine fldN_r (n := sn) _ stC_nx (regC_len _) ?_
      | refine ldN_row (n := sn) _ stC_is (regC_len _) ?_
      | (refine fagg_eql kRegS (by decide) rfl rfl rfl rfl (by kernel_rfl) (fRegS _) (fRegS _) ?_; refine ift he ?_)
      | (refine ifs (fun h => ?_) (fun h => ?_) <;> (try (exfalso; first | omega | with_reducible contradiction | with_reducible exact h rfl))))
  all_goals (conv => whnf)
  all_goals exact fin_g (A := stB sn x :: R) (.blk takeC (.one takeE)) ⟨rfl, rfl⟩
def StP.wn (x : StP) (y n : RgV) : StP := { x with is := y, next := n }
theorem commit_nil (a : RigA) (r : RigP) (sn : Nat) (x : StP) (R : List Blk) (hrn : x.rn = a.rn) (hw : Fnc Tryz.prog 117 [pt sn] (stB sn x :: R) (Ret (.slice none 0 0) (stB sn x :: R))) (he : ¬ regC x.next = regC x.is) :
    Fnc Tryz.prog 61 [pt sn] (rgM ⟨a, r⟩ ++ (stB sn x :: R))
      (fun e M => Pe (setG r (RgV.dm x.is x.next)).2 e ∧ M = rgM ⟨a, (setG r (RgV.dm x.is x.next)).1⟩ ++ (stB sn (if (setG r (RgV.dm x.is x.next)).2 = 0 then StP.wn x (RgV.dm x.is x.next) (RgV.dm x.is x.next) else x) :: R)) := by
  have hs := setg2 a r sn x (RgV.dm x.is x.next) hrn
  obtain ⟨q, eq⟩ : ∃ q, q = setG r (RgV.dm x.is x.next) := ⟨_, rfl⟩
  rw [← eq] at hs ⊢
  have hf := flush0 sn
  refine fn_intro Tryz.func61 (by kernel_rfl) ?_
  repeat' ((conv => whnf); first
      | refine Tree.scope_rule ?_
      | refine call_gr hw (.blk takeC (.one takeE)) ?_
      | refine nw_row (cs' := regC rg0) rg0_e (fun xn => ?_)
      | refine draw_any 2 [(0, true), (1, true), (2, true), (3, true), (4, true), (5, true), (6, true), (8, true), (9, true), (10, true), (7, true), (11, false), (12, true), (13, true)] [⟨sn, _⟩] rfl (by kernel_rfl) (kept_of (.cons takeC .nil) ?_)
      | refine draw_any 10 [(0, true), (1, true), (2, true), (3, true), (5, true), (6, true), (7, true), (8, true), (4, true), (10, true), (9, true), (11, false), (12, true), (13, false)] [⟨sn, _⟩] rfl (by kernel_rfl) (kept_of (.cons takeC .nil) ?_)
      | refine kept_of (.cons takeC .nil) ?_
      | refine fldN_r (n := sn) _ stC_nx (regC_len _) ?_
      | refine ldN_row (n := sn) _ stC_is (regC_len _) ?_
      | refine ldN_whole (n := xn) (regC_len _) ?_
      | (refine fagg_eql kRegS (by decide) rfl rfl rfl rfl (by kernel_rfl) (fRegS _) (fRegS _) ?_; refine iff' he ?_)
      | refine loop_n 1 ?_
      | (refine need ?_ ?_; exact regC_len _)
      | refine st_rgl rfl ?_
      | refine fld1_row (n := sn) stC_nd ?_
      | refine fld1_row (n := sn) stC_nm ?_
      | refine st_r70 ?_
      | refine st_r71 ?_
      | refine call_val hf ?_
      | refine force_of ?_
      | (refine call_g hs (.grp takeG (.blk takeC .nil)) (fun e A' hq => ?_); obtain ⟨p1, p2, p3⟩ | ⟨p1, p2, p3⟩ := hq <;> subst p2 <;> subst p3)
      | refine st_nx ?_
      | refine need (by first | rfl | omega) ?_
      | (refine ifs (fun h => ?_) (fun h => ?_) <;> (try (exfalso; first | omega | with_reducible contradiction | with_reducible exact h rfl))))
  all_goals (conv => whnf)
  · rw [if_pos p1]
    exact fin_g (A := rgM _ ++ (stB sn _ :: R)) (.grp takeG (.blk takeC (.one takeE))) ⟨.inl ⟨p1, rfl⟩, rfl⟩
  · rw [if_neg p1]
    exact fin_g (A := rgM _ ++ (stB sn _ :: R)) (.grp takeG (.blk takeC (.one takeE))) ⟨.inr ⟨p1, rfl⟩, rfl⟩
end Go.Proofs.YtkjamonkohpcnaaGreat.Stg
/- A store on any rig: a commit of the first device's sheet, there being room. -/
namespace Go.Proofs.YtkjamonkohpcnaaGreat.Stg
open Go Ev Sha Aes Orc Node Rec Chn Jrn Cau Sto Srt
open Rig (Fnc_takeR RigP Rg rgM readR writeR flushR setRegR z64 app_of tick comes write_ flush_ setreg_ mayE RigA)
open Tree (TreP TreA Tre treM shB mpB treC)
set_option linter.unusedVariables false
set_option linter.unusedSimpArgs false
set_option maxRecDepth 100000
/-- What a commit works on; x: what the register is to say. -/
structure Cx where
  s : Rt
  j0 : JrP
  j1 : JrP
  t0 : TreP
  t1 : TreP
  is : RgV
  next : RgV
  x : RgV
def RgV.an (y : RgV) (d : Nat) (a : Dg) (u : Nat) : RgV := if d = 0 then { y with a0 := a, u0 := u } else { y with a1 := a, u1 := u }
noncomputable def ap0 (c : Cx) : Cx × Int :=
  if (appJ c.j0 c.t0.root (srt c.t0.sheet) c.s).2 = 0 then ({ c with s := (appJ c.j0 c.t0.root (srt c.t0.sheet) c.s).1, j0 := appX c.j0 c.t0.root (srt c.t0.sheet) 0, x := RgV.an c.x 0 (appX c.j0 c.t0.root (srt c.t0.sheet) 0).anchor (appX c.j0 c.t0.root (srt c.t0.sheet) 0).used }, 0)
  else ({ c with s := (appJ c.j0 c.t0.root (srt c.t0.sheet) c.s).1 }, (appJ c.j0 c.t0.root (srt c.t0.sheet) c.s).2)
noncomputable def ap1 (c : Cx) : Cx × Int :=
  if (appJ c.j1 c.t1.root (srt c.t1.sheet) c.s).2 = 0 then ({ c with s := (appJ c.j1 c.t1.root (srt c.t1.sheet) c.s).1, j1 := appX c.j1 c.t1.root (srt c.t1.sheet) 0, x := RgV.an c.x 1 (appX c.j1 c.t1.root (srt c.t1.sheet) 0).anchor (appX c.j1 c.t1.root (srt c.t1.sheet) 0).used }, 0)
  else ({ c with s := (appJ c.j1 c.t1.root (srt c.t1.sheet) c.s).1 }, (appJ c.j1 c.t1.root (srt c.t1.sheet) c.s).2)
noncomputable def flC (l : List Nat) (c : Cx) : Cx × Int := ({ c with s := ⟨(lp (flG l) l.length 0 c.s.r).1, c.s.ts⟩ }, (lp (flG l) l.length 0 c.s.r).2)
/-- The register says it. -/
noncomputable def sayC (c : Cx) : Cx × Int := if (setG c.s.r c.x).2 = 0 then ({ c with s := ⟨(setG c.s.r c.x).1, c.s.ts⟩, is := c.x, next := c.x }, 0) else ({ c with s := ⟨(setG c.s.r c.x).1, c.s.ts⟩ }, (setG c.s.r c.x).2)
noncomputable def hm0 (c : Cx) : Cx × Int := if (hmG c.s.r 0 c.t0.sheet).2 = 0 then ({ c with s := ⟨(hmG c.s.r 0 c.t0.sheet).1, c.s.ts⟩, t0 := TreP.clr c.t0 }, 0) else ({ c with s := ⟨(hmG c.s.r 0 c.t0.sheet).1, c.s.ts⟩ }, (hmG c.s.r 0 c.t0.sheet).2)
noncomputable def hm1 (c : Cx) : Cx × Int := if (hmG c.s.r 1 c.t1.sheet).2 = 0 then ({ c with s := ⟨(hmG c.s.r 1 c.t1.sheet).1, c.s.ts⟩, t1 := TreP.clr c.t1 }, 0) else ({ c with s := ⟨(hmG c.s.r 1 c.t1.sheet).1, c.s.ts⟩ }, (hmG c.s.r 1 c.t1.sheet).2)
def Cx.go (c : Cx) : Cx := { c with x := RgV.dm c.is c.next }
noncomputable def com0 (c : Cx) : Cx × Int := bd (τ := Cx) (ap0 (Cx.go c)) fun c => bd (τ := Cx) (flC [0] c) fun c => bd (τ := Cx) (sayC c) hm0
theorem troot (tn : Nat) (x : Tre) : Fnc Tryz.prog 124 [pt tn] (treM tn x) (Ret (.agg (dgV x.t.root).toArray) (treM tn x)) := by
  unfold treM
  refine fn_intro Tryz.func124 (by kernel_rfl) ?_
  repeat' ((conv => whnf); first
      | refine nw_z (fun n => ?_)
      | refine ldN_row (n := tn) (dgV x.t.root) rfl (dgV_len _) ?_
      | refine need (dgV_len _) ?_
      | refine st_dg ?_
      | refine ldN_dg rfl ?_)
  all_goals (conv => whnf)
  all_goals exact fin_g (A := [⟨tn, _⟩, shB x.a.sn x.a.mn, mpB x.a.mn x.t.sheet, mpB x.a.kn x.t.known]) (.blk takeC (.blk takeC (.blk takeC (.blk takeC .nil)))) ⟨rfl, rfl⟩
theorem wt_out {d : Nat} {l : List Nat} {M M' : List Blk} {e : Ending} (h : WtQ (d :: l) M e M') : ∃ (ln c : Nat) (jk : List Value), e = .returned (.slice (some ⟨ln, 0, none⟩) (d :: l).length c) ∧ M' = M ++ [lJ ln (d :: l) jk] := by
  rcases h with ⟨h1, _⟩ | ⟨_, h2⟩
  · cases h1
  · exact h2
theorem rcC_P (seq : Int) (b : Dg) (p : Value) : (rcC seq b).take 33 ++ [p] ++ (rcC seq b).drop (33 + 1) = rcP seq b p := rfl
attribute [local irreducible] dgV D jC wrF rcC stC regC RgV.lay rgM setRegR writeR rcP recB begJ beginG bare BareT setG treC flatV Builtin.append_ Builtin.len_ appJ appX hmG srt roomJ
end Go.Proofs.YtkjamonkohpcnaaGreat.Stg
/- A store on any rig: a commit of the second device's sheet, there being room. -/
namespace Go.Proofs.YtkjamonkohpcnaaGreat.Stg
open Go Ev Sha Aes Orc Node Rec Chn Jrn Cau Sto Srt
open Rig (Fnc_takeR RigP Rg rgM readR writeR flushR setRegR z64 app_of tick comes write_ flush_ setreg_ mayE RigA)
open Tree (TreP TreA Tre treM shB mpB treC)
set_option linter.unusedVariables false
set_option linter.unusedSimpArgs false
set_option maxRecDepth 100000
noncomputable def com1 (c : Cx) : Cx × Int := bd (τ := Cx) (ap1 (Cx.go c)) fun c => bd (τ := Cx) (flC [1] c) fun c => bd (τ := Cx) (sayC c) hm1
attribute [local irreducible] dgV D jC wrF rcC stC regC RgV.lay rgM setRegR writeR rcP recB begJ beginG bare BareT setG treC flatV Builtin.append_ Builtin.len_ appJ appX hmG srt roomJ
end Go.Proofs.YtkjamonkohpcnaaGreat.Stg
