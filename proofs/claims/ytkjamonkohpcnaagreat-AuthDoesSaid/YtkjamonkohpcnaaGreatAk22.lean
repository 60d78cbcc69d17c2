/- Texts of this proof, merged. -/
import Derived.Test.YtkjamonkohpcnaaGreatAk18
set_option linter.unusedVariables false
set_option linter.unusedSimpArgs false
set_option linter.unusedSectionVars false
set_option maxRecDepth 100000
set_option maxHeartbeats 16000000
namespace Go.Proofs.YtkjamonkohpcnaaGreat
namespace Stg
open Go Ev Sha Aes Orc Node Rec Chn Jrn Cau Sto Srt
open Rig (Fnc_takeR RigP Rg rgM readR writeR flushR setRegR z64 app_of tick comes write_ flush_ setreg_ mayE RigA)
open Tree (TreP TreA Tre treM shB mpB treC)
noncomputable def comT0 (super : ByteArray) (c : Cx) : Cx × Int := if roomJ c.j0 c.t0.sheet.length = true then com0 c else bd (τ := Cx) (enA2 super c) com0
attribute [local irreducible] dgV D jC wrF rcC stC regC RgV.lay rgM setRegR writeR rcP recB begJ beginG bare BareT setG treC flatV Builtin.append_ Builtin.len_ appJ appX hmG srt roomJ areas2G
theorem commitT0 (a : RigA) (c : Cx) (o : Orc) (sn jn0 jn1 tn0 tn1 : Nat) (x : StP) (A0 A1 : TreA) (hrn : x.rn = a.rn) (hon : x.on = o.on) (hts : o.ts = c.s.ts) (his : x.is = c.is) (hnx : x.next = c.next) (hj0 : x.j0 = some ⟨jn0, 0, none⟩) (ht0 : x.t0 = some ⟨tn0, 0, none⟩) (hj1 : x.j1 = some ⟨jn1, 0, none⟩) (ht1 : x.t1 = some ⟨tn1, 0, none⟩) (hs64 : x.super.size = 64) (hat : x.is.at_ = true)
 (hwt : wtL c.t0.sheet.length c.t1.sheet.length = [0]) (hA0 : JAr c.j0) (hA1 : JAr c.j1) (hn0 : (c.t0.sheet.map (·.1)).Nodup) (h10 : 1 ≤ c.t0.sheet.length) (hJ0 : JOk c.j0 c.t0) (hb : c.s.ts.length ≤ 1099511500000) :
 Fnc Tryz.prog 61 [pt sn] (c2M a o sn jn0 jn1 tn0 tn1 a.rn o.on x A0 A1 c) (CTQ a o sn tn0 tn1 x A0 A1 (comT0 x.super c)) := by
 obtain ⟨s, I0, I1, T0, T1, is, next, y0⟩ := c
 dsimp only at his hnx hts hwt hA0 hA1 hn0 h10 hJ0 hb
 subst his; subst hnx
 have hx0 : x = StP.wjj x jn0 jn1 x.is := by unfold StP.wjj; rw [← hj0, ← hj1]
 have hw := waiting1 sn tn0 tn1 x A0 A1 T0 T1 hat ht0 ht1
 rw [hwt] at hw
 obtain ⟨Q, eQ⟩ : ∃ Q, Q = comT0 x.super ⟨s, I0, I1, T0, T1, x.is, x.next, y0⟩ := ⟨_, rfl⟩
 rw [← eQ]
 show Fnc Tryz.prog 61 [pt sn] (rgM ⟨a, s.r⟩ ++ (orcM o ++ (stB sn x :: (jB jn0 a.rn o.on I0 :: (jB jn1 a.rn o.on I1 :: (treM tn0 ⟨A0, T0⟩ ++ treM tn1 ⟨A1, T1⟩)))))) _
 refine fn_intro Tryz.func61 (by kernel_rfl) ?_
 repeat' ((conv => whnf); first
  | refine scope_lab 0 [_, _, _] rfl ?_ | (refine call_g hw (.blk takeC (.grp takeG (.one takeG))) (fun e A' hq => ?_); obtain ⟨ln, cc, jk, z1, z2⟩ := wt_out hq; subst z1; subst z2) | refine nw_row (cs' := regC rg0) rg0_e (fun xn => ?_) | refine draw_any 2 [(0, true), (1, true), (2, true), (3, true), (4, true), (5, true), (6, true), (8, true), (9, true), (10, true), (7, true), (11, false), (12, true), (13, true)] [⟨sn, _⟩] rfl (by kernel_rfl) (kept_of (.cons takeC .nil) ?_) | (refine ifs (fun h => ?_) (fun h => ?_) <;> try (exfalso; first | omega | with_reducible first | contradiction | exact h rfl)))
 all_goals (conv => whnf)
 refine lab_rule [] (fun vs M m => ∃ (s' : Rt) (J0 J1 : JrP) (is' : RgV) (p0 p1 : Nat) (o' : Orc), vs = [] ∧ o'.on = o.on ∧ o'.ts = s'.ts ∧ s'.ts.length ≤ 1099511500000 + 5 * (1 - m) ∧ m ≤ 1 ∧ is'.at_ = true ∧ JAr J0 ∧ JAr J1 ∧ (JOk J0 T0) ∧ (m = 0 → roomJ J0 T0.sheet.length = true) ∧ comT0 x.super ⟨s', J0, J1, T0, T1, is', x.next, y0⟩ = Q ∧
  M = rgM ⟨a, s'.r⟩ ++ (orcM o' ++ (stB sn (StP.wjj x p0 p1 is') :: (jB p0 a.rn o.on J0 :: (jB p1 a.rn o.on J1 :: (treM tn0 ⟨A0, T0⟩ ++ (treM tn1 ⟨A1, T1⟩ ++ (lJ ln [0] jk :: [⟨xn, .row (regC rg0) 34⟩])))))))) rfl rfl ?_ ?_
 · rw [hx0]
   exact fin_g (A := rgM _ ++ (orcM o ++ (stB sn _ :: (jB jn0 a.rn o.on I0 :: (jB jn1 a.rn o.on I1 :: (treM tn0 ⟨A0, T0⟩ ++ (treM tn1 ⟨A1, T1⟩ ++ (lJ ln [0] jk :: [⟨xn, _⟩])))))))) (.grp takeG (.grp takeG (.blk takeC (.blk takeC (.blk takeC (.grp takeG (.grp takeG (.blk takeC (.blk takeC .nil))))))))) ⟨1, s, I0, I1, x.is, jn0, jn1, o, rfl, rfl, hts, by omega, by omega, hat, hA0, hA1, hJ0, (fun h => by cases h), eQ.symm, rfl⟩
 rintro vs junk M' m ⟨s', J0, J1, is', p0, p1, o', rfl, ho', hts', hb', hm, hat', hA0', hA1', hJ0', hr, hcom, rfl⟩
 have hck0 := hJ0'.ck
 have hd0 := hJ0'.d
 have ha0 := hJ0'.area
 have hu0 := hJ0'.used
 have hl0 := chkE_0 hck0
 have hsl0 := srt_len T0.sheet
 have hsh0 : Fnc Tryz.prog 119 [pt tn0] (treM tn0 ⟨A0, T0⟩) (Ret (pt A0.sn) (treM tn0 ⟨A0, T0⟩)) := Tree.tsheet tn0 ⟨A0, T0⟩
 have hsn0 := tlen tn0 A0 T0
 have hroom0 := jroom p0 a.rn o.on J0 T0.sheet.length (by omega) (by omega)
 by_cases hrm : roomJ J0 T0.sheet.length = true
 · have hroomed : comT0 x.super ⟨s', J0, J1, T0, T1, is', x.next, y0⟩ = com0 ⟨s', J0, J1, T0, T1, is', x.next, y0⟩ := by unfold comT0; rw [if_pos hrm]
   have hrm0 := hrm
   rw [hrm0] at hroom0
   have hrt0 : Fnc Tryz.prog 124 [pt tn0] (treM tn0 ⟨A0, T0⟩) (Ret (.agg (dgV T0.root).toArray) (treM tn0 ⟨A0, T0⟩)) := troot tn0 ⟨A0, T0⟩
   have hseq0 := jseq p0 a.rn o.on J0
   have hputs0 := tputs tn0 A0 T0 hn0 h10 (by omega)
   have hwrap0 : IntKind.i64.wrap (J0.seq + 1) = J0.seq + 1 := w64 (by have := hl0.2.1; unfold seqOk at this; omega) (by have := hl0.2.1; unfold seqOk at this; omega)
   have hel0 := appJ_len J0 T0.root (srt T0.sheet) s'
   obtain ⟨E0, eE0⟩ : ∃ E, E = appJ J0 T0.root (srt T0.sheet) s' := ⟨_, rfl⟩
   have hap0 : ∀ (g cap : Nat) (jk : List Value) (o1 : Orc), o1.on = o.on → o1.ts = s'.ts → Fnc Tryz.prog 122 [pt p0, .agg (rcP (J0.seq + 1) T0.root (.slice (some ⟨g, 0, none⟩) T0.sheet.length cap)).toArray] (rgM ⟨a, s'.r⟩ ++ (orcM o1 ++ [jB p0 a.rn o.on J0, ⟨g, .row (flatV (srt T0.sheet) ++ jk) 117⟩]))
    (RetO o1 E0.1.ts (fun o' => rgM ⟨a, E0.1.r⟩ ++ (orcM o' ++ [jB p0 a.rn o.on (appX J0 T0.root (srt T0.sheet) E0.2), ⟨g, .row (flatV (srt T0.sheet) ++ jk) 117⟩])) (.int .i64 E0.2)) := fun g cap jk o1 e1 e2 => by
    have := jappend a s' o1 p0 g cap J0 T0.root (srt T0.sheet) jk 117 e2 (by omega) hck0 (by rw [hsl0]; exact hrm0) hd0 ha0 (by omega)
    rw [hsl0, e1, ← eE0] at this
    exact this
   rw [← eE0] at hel0
   obtain ⟨K0, eK0⟩ : ∃ K, K = appX J0 T0.root (srt T0.sheet) 0 := ⟨_, rfl⟩
   have hK00 : E0.2 = 0 → appX J0 T0.root (srt T0.sheet) E0.2 = K0 := fun h => by rw [h, eK0]
   have hK01 : E0.2 ≠ 0 → appX J0 T0.root (srt T0.sheet) E0.2 = J0 := fun h => by unfold appX; rw [if_neg h]
   have hanc0 := janchor p0 a.rn o.on K0
   have husd0 := jused p0 a.rn o.on K0
   have hfl := fun (ln c : Nat) (jk : List Value) => flushj a E0.1.r sn ln c (StP.wjj x p0 p1 is') [0] jk hrn (by decide)
   obtain ⟨G, eG⟩ : ∃ G, G = lp (flG [0]) [0].length 0 E0.1.r := ⟨_, rfl⟩
   rw [← eG] at hfl
   have hst := setg2 a G.1 sn (StP.wjj x p0 p1 is') (RgV.an (RgV.dm is' x.next) 0 K0.anchor K0.used) hrn
   obtain ⟨S, eS⟩ : ∃ S, S = setG G.1 (RgV.an (RgV.dm is' x.next) 0 K0.anchor K0.used) := ⟨_, rfl⟩
   rw [← eS] at hst
   have hhm0 := homeg a S.1 sn tn0 (StP.wn (StP.wjj x p0 p1 is') (RgV.an (RgV.dm is' x.next) 0 K0.anchor K0.used) (RgV.an (RgV.dm is' x.next) 0 K0.anchor K0.used)) 0 A0 T0 hrn (.inl rfl) ht0 hn0 h10 (by omega)
   obtain ⟨H0, eH0⟩ : ∃ H, H = hmG S.1 0 T0.sheet := ⟨_, rfl⟩
   rw [← eH0] at hhm0
   unfold HmQ at hhm0
   have f1 : ap0 (Cx.go ⟨s', J0, J1, T0, T1, is', x.next, y0⟩) = if E0.2 = 0 then (⟨E0.1, K0, J1, T0, T1, is', x.next, (RgV.an (RgV.dm is' x.next) 0 K0.anchor K0.used)⟩, 0) else (⟨E0.1, J0, J1, T0, T1, is', x.next, (RgV.dm is' x.next)⟩, E0.2) := by rw [eK0, eE0]; rfl
   have f2 : flC [0] ⟨E0.1, K0, J1, T0, T1, is', x.next, (RgV.an (RgV.dm is' x.next) 0 K0.anchor K0.used)⟩ = (⟨⟨G.1, E0.1.ts⟩, K0, J1, T0, T1, is', x.next, (RgV.an (RgV.dm is' x.next) 0 K0.anchor K0.used)⟩, G.2) := by rw [eG]; rfl
   have f3 : sayC ⟨⟨G.1, E0.1.ts⟩, K0, J1, T0, T1, is', x.next, (RgV.an (RgV.dm is' x.next) 0 K0.anchor K0.used)⟩ = if S.2 = 0 then (⟨⟨S.1, E0.1.ts⟩, K0, J1, T0, T1, (RgV.an (RgV.dm is' x.next) 0 K0.anchor K0.used), (RgV.an (RgV.dm is' x.next) 0 K0.anchor K0.used), (RgV.an (RgV.dm is' x.next) 0 K0.anchor K0.used)⟩, 0) else (⟨⟨S.1, E0.1.ts⟩, K0, J1, T0, T1, is', x.next, (RgV.an (RgV.dm is' x.next) 0 K0.anchor K0.used)⟩, S.2) := by rw [eS]; rfl
   have f4 : hm0 ⟨⟨S.1, E0.1.ts⟩, K0, J1, T0, T1, (RgV.an (RgV.dm is' x.next) 0 K0.anchor K0.used), (RgV.an (RgV.dm is' x.next) 0 K0.anchor K0.used), (RgV.an (RgV.dm is' x.next) 0 K0.anchor K0.used)⟩ = if H0.2 = 0 then (⟨⟨H0.1, E0.1.ts⟩, K0, J1, TreP.clr T0, T1, (RgV.an (RgV.dm is' x.next) 0 K0.anchor K0.used), (RgV.an (RgV.dm is' x.next) 0 K0.anchor K0.used), (RgV.an (RgV.dm is' x.next) 0 K0.anchor K0.used)⟩, 0) else (⟨⟨H0.1, E0.1.ts⟩, K0, J1, T0, T1, (RgV.an (RgV.dm is' x.next) 0 K0.anchor K0.used), (RgV.an (RgV.dm is' x.next) 0 K0.anchor K0.used), (RgV.an (RgV.dm is' x.next) 0 K0.anchor K0.used)⟩, H0.2) := by rw [eH0]; rfl
   repeat' ((conv => whnf); first
    | refine draw_any 6 [(0, true), (1, true), (2, true), (3, true), (4, true), (5, true), (7, true), (8, true), (9, true), (10, true), (11, true), (12, true), (6, true), (13, false), (14, false), (15, false), (16, false), (17, true)] [⟨sn, _⟩] rfl (by kernel_rfl) (kept_of (.cons takeC .nil) ?_) | refine draw_any 10 [(0, true), (1, true), (2, true), (3, true), (5, true), (6, true), (7, true), (8, true), (4, true), (10, true), (9, true), (11, false), (12, true), (13, false)] [⟨sn, _⟩] rfl (by kernel_rfl) (kept_of (.cons takeC .nil) ?_) | refine draw_any 14 [(0, true), (1, true), (2, true), (3, true), (4, true), (5, true), (7, true), (8, true), (9, true), (10, true), (11, true), (12, true), (6, true), (14, true), (13, false), (15, true)] [⟨sn, _⟩] rfl (by kernel_rfl) (kept_of (.cons takeC .nil) ?_) | refine draw_any 16 [(0, true), (1, true), (2, true), (4, true), (6, true), (9, true), (3, false), (7, true), (5, false), (8, false), (10, true), (11, false)] [] rfl (by kernel_rfl) (kept_nil ?_) | refine kept_of (.cons takeC .nil) ?_ | refine kept_nil ?_ | refine loop_n 2 ?_ | refine nv_eq (a := 0) rfl ?_ | refine nv_eq (a := 6) rfl ?_ | refine nv_eq (a := 68) rfl ?_ | refine ld1_row (n := ln) (v := .int .i64 0) rfl ?_ | refine fld1_row (n := sn) (v := pt p0) (by rw [stC_6]; rfl) ?_ | refine ld1_row (n := sn) (v := pt tn0) (by rw [stC_7]; show some (Value.pointer x.t0) = _; rw [ht0]) ?_ | refine call_gr hsh0 (.one takeG) ?_ | refine call_gr hsn0 (.one takeG) ?_ | refine call_gr hroom0 (.blk takeC .nil) ?_ | refine call_gr hrt0 (.one takeG) ?_ | refine call_gr hseq0 (.blk takeC .nil) ?_ | (refine wr (fun z hz => ?_); rw [hwrap0] at hz; subst hz) | (refine call_g hputs0 (.one takeG) (fun e A' hq => ?_); obtain ⟨g0, cap0, jkp0, z1, z2⟩ := hq; subst z1; subst z2) | (refine bld_cons (vs := [_]) rfl rfl rfl (Nat.le_of_ble_eq_true rfl) rfl ?_; refine bld_cons (vs := dgV T0.root) (cs1 := rcC (J0.seq + 1) T0.root) rfl rfl (dgV_len _) (Nat.le_of_ble_eq_true rfl) (rzs_e _ _) ?_; refine bld_cons (vs := [_]) (cs1 := rcP (J0.seq + 1) T0.root (.slice (some ⟨g0, 0, none⟩) T0.sheet.length cap0)) rfl rfl rfl (by rw [rcC_len]; exact Nat.le_refl 34) (rcC_P _ _ _) ?_; refine bld_nil ?_) | refine call_gr hanc0 (.blk takeC .nil) ?_ | refine call_gr husd0 (.blk takeC .nil) ?_ | refine st_ra0 ?_ | refine st_r68 ?_ | refine call_go (hap0 g0 cap0 jkp0 o' ho' hts') (.grp takeG (.grp takeG (.blk takeC (.blk takeC .nil)))) (fun o0 a0 b0 => ?_) | (refine call_g (must_any E0.2) .nil (fun e A' hq => ?_); obtain ⟨z0, ⟨c0, z2⟩ | ⟨c0, z2⟩⟩ := hq <;> subst z2 <;> subst z0 <;> first | rw [hK00 c0] | rw [hK01 c0]) | (refine call_g hhm0 (.grp takeG (.blk takeC (.one takeG))) (fun e A' hq => ?_); obtain ⟨v0, m0, z2, z3⟩ | ⟨v0, z2, z3⟩ := hq <;> subst z2 <;> subst z3) | refine ldN_row (n := sn) _ stC_is (regC_len _) ?_ | refine ldN_whole (n := xn) (regC_len _) ?_ | (refine need ?_ ?_; exact regC_len _) | (refine need ?_ ?_; exact dgV_len _) | refine st_rgl rfl ?_ | refine fld1_row (n := sn) stC_nd ?_ | refine fld1_row (n := sn) stC_nm ?_ | refine st_r70 ?_ | refine st_r71 ?_ | refine force_of ?_ | (refine call_g (hfl _ _ _) (.grp takeG (.blk takeC (.blk takeC .nil))) (fun e A' hq => ?_); obtain ⟨⟨t1, t2⟩ | ⟨t1, t2⟩, t3⟩ := hq <;> subst t2 <;> subst t3) | (refine call_g hst (.grp takeG (.blk takeC .nil)) (fun e A' hq => ?_); obtain ⟨u1, u2, u3⟩ | ⟨u1, u2, u3⟩ := hq <;> subst u2 <;> subst u3) | refine st_nx ?_ | refine need (by first | rfl | omega) ?_ | (refine wr (fun z hz => ?_); (try rw [Int.tdiv_eq_ediv_of_nonneg (by omega)] at hz); rw [w64 (by omega) (by omega)] at hz; subst hz) | (refine ifs (fun h => ?_) (fun h => ?_) <;> try (exfalso; first | omega | with_reducible first | contradiction | exact h rfl)))
   all_goals (conv => whnf)
   · have hQ : com0 ⟨s', J0, J1, T0, T1, is', x.next, y0⟩ = (⟨⟨H0.1, E0.1.ts⟩, K0, J1, TreP.clr T0, T1, (RgV.an (RgV.dm is' x.next) 0 K0.anchor K0.used), (RgV.an (RgV.dm is' x.next) 0 K0.anchor K0.used), (RgV.an (RgV.dm is' x.next) 0 K0.anchor K0.used)⟩, 0) := by unfold com0; rw [f1, if_pos c0, bd_pok rfl, f2, bd_pok t1, f3, if_pos u1, bd_pok rfl, f4, if_pos v0]
     rw [← hcom, hroomed, hQ]
     exact fin_g (A := rgM _ ++ (orcM o0 ++ (stB sn _ :: (jB p0 a.rn o.on K0 :: (jB p1 a.rn o.on J1 :: (treM tn0 ⟨TreA.wm A0 m0, TreP.clr T0⟩ ++ treM tn1 ⟨A1, T1⟩)))))) (.grp takeG (.grp takeG (.blk takeC (.blk takeC (.blk takeC (.grp takeG (.one takeG))))))) ⟨o0, TreA.wm A0 m0, A1, p0, p1, a0.trans ho', b0, rfl, rfl, rfl, rfl, .inl ⟨rfl, rfl⟩, rfl⟩
   · have hQ : com0 ⟨s', J0, J1, T0, T1, is', x.next, y0⟩ = (⟨⟨H0.1, E0.1.ts⟩, K0, J1, T0, T1, (RgV.an (RgV.dm is' x.next) 0 K0.anchor K0.used), (RgV.an (RgV.dm is' x.next) 0 K0.anchor K0.used), (RgV.an (RgV.dm is' x.next) 0 K0.anchor K0.used)⟩, H0.2) := by unfold com0; rw [f1, if_pos c0, bd_pok rfl, f2, bd_pok t1, f3, if_pos u1, bd_pok rfl, f4, if_neg v0]
     rw [← hcom, hroomed, hQ]
     exact fin_g (A := rgM _ ++ (orcM o0 ++ (stB sn _ :: (jB p0 a.rn o.on K0 :: (jB p1 a.rn o.on J1 :: (treM tn0 ⟨A0, T0⟩ ++ treM tn1 ⟨A1, T1⟩)))))) (.grp takeG (.grp takeG (.blk takeC (.blk takeC (.blk takeC (.grp takeG (.one takeG))))))) ⟨o0, A0, A1, p0, p1, a0.trans ho', b0, rfl, rfl, rfl, rfl, .inr ⟨v0, rfl⟩, rfl⟩
   · have hQ : com0 ⟨s', J0, J1, T0, T1, is', x.next, y0⟩ = (⟨⟨S.1, E0.1.ts⟩, K0, J1, T0, T1, is', x.next, (RgV.an (RgV.dm is' x.next) 0 K0.anchor K0.used)⟩, S.2) := by unfold com0; rw [f1, if_pos c0, bd_pok rfl, f2, bd_pok t1, f3, if_neg u1, bd_pno u1]
     rw [← hcom, hroomed, hQ]
     exact fin_g (A := rgM _ ++ (orcM o0 ++ (stB sn _ :: (jB p0 a.rn o.on K0 :: (jB p1 a.rn o.on J1 :: (treM tn0 ⟨A0, T0⟩ ++ treM tn1 ⟨A1, T1⟩)))))) (.grp takeG (.grp takeG (.blk takeC (.blk takeC (.blk takeC (.grp takeG (.one takeG))))))) ⟨o0, A0, A1, p0, p1, a0.trans ho', b0, rfl, rfl, rfl, rfl, .inr ⟨u1, rfl⟩, rfl⟩
   · have hQ : com0 ⟨s', J0, J1, T0, T1, is', x.next, y0⟩ = (⟨⟨G.1, E0.1.ts⟩, K0, J1, T0, T1, is', x.next, (RgV.an (RgV.dm is' x.next) 0 K0.anchor K0.used)⟩, G.2) := by unfold com0; rw [f1, if_pos c0, bd_pok rfl, f2, bd_pno t1]
     rw [← hcom, hroomed, hQ]
     exact fin_g (A := rgM _ ++ (orcM o0 ++ (stB sn _ :: (jB p0 a.rn o.on K0 :: (jB p1 a.rn o.on J1 :: (treM tn0 ⟨A0, T0⟩ ++ treM tn1 ⟨A1, T1⟩)))))) (.grp takeG (.grp takeG (.blk takeC (.blk takeC (.blk takeC (.grp takeG (.one takeG))))))) ⟨o0, A0, A1, p0, p1, a0.trans ho', b0, rfl, rfl, rfl, rfl, .inr ⟨t1, rfl⟩, rfl⟩
   · have hQ : com0 ⟨s', J0, J1, T0, T1, is', x.next, y0⟩ = (⟨E0.1, J0, J1, T0, T1, is', x.next, (RgV.dm is' x.next)⟩, E0.2) := by unfold com0; rw [f1, if_neg c0, bd_pno c0]
     rw [← hcom, hroomed, hQ]
     exact fin_g (A := rgM _ ++ (orcM o0 ++ (stB sn _ :: (jB p0 a.rn o.on J0 :: (jB p1 a.rn o.on J1 :: (treM tn0 ⟨A0, T0⟩ ++ treM tn1 ⟨A1, T1⟩)))))) (.grp takeG (.grp takeG (.blk takeC (.blk takeC (.blk takeC (.grp takeG (.one takeG))))))) ⟨o0, A0, A1, p0, p1, a0.trans ho', b0, rfl, rfl, rfl, rfl, .inr ⟨c0, rfl⟩, rfl⟩
 · have hm1 : m = 1 := by
    rcases Nat.eq_zero_or_pos m with h0 | h0
    · exact absurd (hr h0) hrm
    · omega
   subst hm1
   have hdv := devices_ sn (StP.wjj x p0 p1 is') hat'
   have hok := areas2_ok (super := x.super) (q := ⟨s', J0, J1, is'⟩)
   have hcomF : comT0 x.super ⟨s', J0, J1, T0, T1, is', x.next, y0⟩ = bd (τ := Cx) (enA2 x.super ⟨s', J0, J1, T0, T1, is', x.next, y0⟩) com0 := by unfold comT0; rw [if_neg hrm]
   obtain ⟨q, eq⟩ : ∃ q, q = areas2G x.super ⟨s', J0, J1, is'⟩ := ⟨_, rfl⟩
   have hen : enA2 x.super ⟨s', J0, J1, T0, T1, is', x.next, y0⟩ = if q.2 = 0 then (⟨q.1.s, q.1.j0, q.1.j1, T0, T1, q.1.y, x.next, y0⟩, 0) else (⟨q.1.s, q.1.j0, q.1.j1, T0, T1, is', x.next, y0⟩, q.2) := by rw [eq]; rfl
   rw [← eq] at hok
   have hA : ∀ l2, Fnc Tryz.prog 121 [pt sn, .agg (regC is').toArray, .slice (some ⟨l2, 0, none⟩) 2 2] (⟨l2, .cells [.int .i64 0, .int .i64 1] 3⟩ :: (rgM ⟨a, s'.r⟩ ++ (orcM o' ++ [stB sn (StP.wjj x p0 p1 is'), jB p0 a.rn o.on J0, jB p1 a.rn o.on J1])))
    (fun e M => ∃ (o2 : Orc) (r0 r1 : Nat), o2.on = o.on ∧ o2.ts = q.1.s.ts ∧ ((q.2 = 0 ∧ e = .returned (.tuple #[]) ∧ M = rgM ⟨a, q.1.s.r⟩ ++ (orcM o2 ++ [stB sn (StP.wjj x r0 r1 q.1.y), jB r0 a.rn o.on q.1.j0, jB r1 a.rn o.on q.1.j1])) ∨ (q.2 ≠ 0 ∧ e = .panicked (pe q.2) ∧ M = rgM ⟨a, q.1.s.r⟩ ++ (orcM o2 ++ [stB sn (StP.wjj x r0 r1 is'), jB r0 a.rn o.on q.1.j0, jB r1 a.rn o.on q.1.j1])))) := fun l2 => by
    have h := areas2 a ⟨s', J0, J1, is'⟩ o' sn l2 2 p0 p1 (StP.wjj x p0 p1 is') hrn (hon.trans ho'.symm) hts' rfl rfl hs64 hA0'.area hA0'.sq hA1'.area hA1'.sq (by show s'.ts.length ≤ _; omega)
    rw [show (StP.wjj x p0 p1 is').super = x.super from rfl, ← eq, ho'] at h
    refine Fnc_row (Fnc_perm (Fnc_mono h ?_) ((TakesG.perm (M := rgM ⟨a, s'.r⟩ ++ (orcM o' ++ [stB sn (StP.wjj x p0 p1 is'), jB p0 a.rn o.on J0, jB p1 a.rn o.on J1, lB l2 [0, 1]])) (A := lB l2 [0, 1] :: (rgM ⟨a, s'.r⟩ ++ (orcM o' ++ [stB sn (StP.wjj x p0 p1 is'), jB p0 a.rn o.on J0, jB p1 a.rn o.on J1]))) (R := []) (.blk takeC (.grp takeG (.grp takeG (.blk takeC (.blk takeC (.blk takeC .nil))))))).trans (by rw [List.append_nil]; exact List.Perm.refl _)))
    rintro e M ⟨o2, r0, r1, g1, g2, ⟨g3, g4⟩ | ⟨g3, g4⟩, g5⟩
    · rw [if_pos g3] at g5; exact ⟨o2, r0, r1, g1, g2, .inl ⟨g3, g4, g5⟩⟩
    · rw [if_neg g3] at g5; exact ⟨o2, r0, r1, g1, g2, .inr ⟨g3, g4, g5⟩⟩
   have hfin : q.2 = 0 → JAr q.1.j0 ∧ JAr q.1.j1 ∧ (JOk q.1.j0 T0) ∧ (roomJ q.1.j0 T0.sheet.length = true) ∧ q.1.y.at_ = true ∧ q.1.s.ts.length ≤ 1099511500000 + 5 * (1 - 0) ∧ comT0 x.super ⟨q.1.s, q.1.j0, q.1.j1, T0, T1, q.1.y, x.next, y0⟩ = Q := fun g3 => by
    obtain ⟨k0, k1, k2, k3⟩ := hok g3
    have hf0 := begJ_f x.super 0 (1 - J0.area) J0.seq J0.root
    have hf1 := begJ_f x.super 1 (1 - J1.area) J1.seq J1.root
    have hrq : roomJ q.1.j0 T0.sheet.length = true := by rw [k0]; exact room_beg _ _ _ _ _ h10 (by omega)
    refine ⟨⟨by rw [k0, hf0.2.2.1]; omega, by rw [k0, hf0.1]; exact hA0'.sq⟩, ⟨by rw [k1, hf1.2.2.1]; omega, by rw [k1, hf1.1]; exact hA1'.sq⟩, ⟨by rw [k0, hf0.1]; exact hck0, by rw [k0, hf0.2.1]; omega, by rw [k0, hf0.2.2.1]; omega, by rw [k0, hf0.2.2.2.1]; omega, by rw [k0, hf0.1]; exact hJ0'.sq⟩, hrq, k2.trans hat', by dsimp only at k3; omega, ?_⟩
    rw [← hcom, hcomF, hen, if_pos g3, bd_pok rfl]; unfold comT0; rw [if_pos hrq]
   rw [show roomJ J0 T0.sheet.length = false by simpa using hrm] at hroom0
   repeat' ((conv => whnf); first
    | refine draw_any 6 [(0, true), (1, true), (2, true), (3, true), (4, true), (5, true), (7, true), (8, true), (9, true), (10, true), (11, true), (12, true), (6, true), (13, false), (14, false), (15, false), (16, false), (17, true)] [⟨sn, _⟩] rfl (by kernel_rfl) (kept_of (.cons takeC .nil) ?_) | refine draw_pan 7 (.take 0 (.take 1 (.take 2 (.take 3 (.take 5 (.two 4 6 (.only 6 (.only 7 .nil)) (.only 4 (.only 7 .nil)))))))) [] rfl (by kernel_rfl) (fun _ _ _ _ h => h) (kept_nil ?_) | refine kept_nil ?_ | refine And.intro ?_ ?_ | refine kept_of (.cons takeC .nil) ?_ | refine loop_n 2 ?_ | refine nv_eq (a := 0) rfl ?_ | refine nv_eq (a := 6) rfl ?_ | refine ld1_row (n := ln) (v := .int .i64 0) rfl ?_ | refine fld1_row (n := sn) (v := pt p0) (by rw [stC_6]; rfl) ?_ | refine ld1_row (n := sn) (v := pt tn0) (by rw [stC_7]; show some (Value.pointer x.t0) = _; rw [ht0]) ?_ | refine call_gr hsh0 (.one takeG) ?_ | refine call_gr hsn0 (.one takeG) ?_ | refine call_gr hroom0 (.blk takeC .nil) ?_ | refine ldN_row (n := sn) _ stC_is (regC_len _) ?_ | (refine call_g hdv (.blk takeC .nil) (fun e A' hq => ?_); obtain ⟨l2, z1, z2⟩ := hq; subst z1; subst z2) | (refine call_g (hA l2) (.blk takeC (.grp takeG (.grp takeG (.blk takeC (.blk takeC (.blk takeC .nil)))))) (fun e A' hq => ?_); obtain ⟨o2, r0, r1, g1, g2, ⟨g3, g4, g5⟩ | ⟨g3, g4, g5⟩⟩ := hq <;> subst g4 <;> subst g5) | refine need (by first | rfl | omega) ?_ | (refine ifs (fun h => ?_) (fun h => ?_) <;> try (exfalso; first | omega | with_reducible first | contradiction | exact h rfl)))
   all_goals (conv => whnf)
   · rfl
   · obtain ⟨k0, k1, k2, k3, k4, k5, k6⟩ := hfin g3
     exact fin_g (A := rgM _ ++ (orcM o2 ++ (stB sn _ :: (jB r0 a.rn o.on q.1.j0 :: (jB r1 a.rn o.on q.1.j1 :: (treM tn0 ⟨A0, T0⟩ ++ (treM tn1 ⟨A1, T1⟩ ++ (lJ ln [0] jk :: [⟨xn, _⟩])))))))) (.grp takeG (.grp takeG (.blk takeC (.blk takeC (.blk takeC (.grp takeG (.grp takeG (.blk takeC (.blk takeC .nil)))))))))
      ⟨0, by omega, q.1.s, q.1.j0, q.1.j1, q.1.y, r0, r1, o2, rfl, g1, g2, k5, by omega, k4, k0, k1, k2, fun _ => k3, k6, rfl⟩
   · rw [← hcom, hcomF, hen, if_neg g3, bd_pno g3]
     exact fin_g (A := rgM _ ++ (orcM o2 ++ (stB sn _ :: (jB r0 a.rn o.on q.1.j0 :: (jB r1 a.rn o.on q.1.j1 :: (treM tn0 ⟨A0, T0⟩ ++ treM tn1 ⟨A1, T1⟩)))))) (.grp takeG (.grp takeG (.blk takeC (.blk takeC (.blk takeC (.grp takeG (.one takeG))))))) ⟨o2, A0, A1, r0, r1, g1, g2, rfl, rfl, rfl, rfl, .inr ⟨g3, rfl⟩, rfl⟩
   · rfl
   · obtain ⟨k0, k1, k2, k3, k4, k5, k6⟩ := hfin g3
     exact fin_g (A := rgM _ ++ (orcM o2 ++ (stB sn _ :: (jB r0 a.rn o.on q.1.j0 :: (jB r1 a.rn o.on q.1.j1 :: (treM tn0 ⟨A0, T0⟩ ++ (treM tn1 ⟨A1, T1⟩ ++ (lJ ln [0] jk :: [⟨xn, _⟩])))))))) (.grp takeG (.grp takeG (.blk takeC (.blk takeC (.blk takeC (.grp takeG (.grp takeG (.blk takeC (.blk takeC .nil)))))))))
      ⟨0, by omega, q.1.s, q.1.j0, q.1.j1, q.1.y, r0, r1, o2, rfl, g1, g2, k5, by omega, k4, k0, k1, k2, fun _ => k3, k6, rfl⟩
   · rw [← hcom, hcomF, hen, if_neg g3, bd_pno g3]
     exact fin_g (A := rgM _ ++ (orcM o2 ++ (stB sn _ :: (jB r0 a.rn o.on q.1.j0 :: (jB r1 a.rn o.on q.1.j1 :: (treM tn0 ⟨A0, T0⟩ ++ treM tn1 ⟨A1, T1⟩)))))) (.grp takeG (.grp takeG (.blk takeC (.blk takeC (.blk takeC (.grp takeG (.one takeG))))))) ⟨o2, A0, A1, r0, r1, g1, g2, rfl, rfl, rfl, rfl, .inr ⟨g3, rfl⟩, rfl⟩
end Stg
namespace Stg
open Go Ev Sha Aes Orc Node Rec Chn Jrn Cau Sto Srt
open Rig (Fnc_takeR RigP Rg rgM readR writeR flushR setRegR z64 app_of tick comes write_ flush_ setreg_ mayE RigA)
open Tree (TreP TreA Tre treM shB mpB treC)
noncomputable def comT1 (super : ByteArray) (c : Cx) : Cx × Int := if roomJ c.j1 c.t1.sheet.length = true then com1 c else bd (τ := Cx) (enA2 super c) com1
attribute [local irreducible] dgV D jC wrF rcC stC regC RgV.lay rgM setRegR writeR rcP recB begJ beginG bare BareT setG treC flatV Builtin.append_ Builtin.len_ appJ appX hmG srt roomJ areas2G
theorem commitT1 (a : RigA) (c : Cx) (o : Orc) (sn jn0 jn1 tn0 tn1 : Nat) (x : StP) (A0 A1 : TreA) (hrn : x.rn = a.rn) (hon : x.on = o.on) (hts : o.ts = c.s.ts) (his : x.is = c.is) (hnx : x.next = c.next) (hj0 : x.j0 = some ⟨jn0, 0, none⟩) (ht0 : x.t0 = some ⟨tn0, 0, none⟩) (hj1 : x.j1 = some ⟨jn1, 0, none⟩) (ht1 : x.t1 = some ⟨tn1, 0, none⟩) (hs64 : x.super.size = 64) (hat : x.is.at_ = true)
 (hwt : wtL c.t0.sheet.length c.t1.sheet.length = [1]) (hA0 : JAr c.j0) (hA1 : JAr c.j1) (hn1 : (c.t1.sheet.map (·.1)).Nodup) (h11 : 1 ≤ c.t1.sheet.length) (hJ1 : JOk c.j1 c.t1) (hb : c.s.ts.length ≤ 1099511500000) :
 Fnc Tryz.prog 61 [pt sn] (c2M a o sn jn0 jn1 tn0 tn1 a.rn o.on x A0 A1 c) (CTQ a o sn tn0 tn1 x A0 A1 (comT1 x.super c)) := by
 obtain ⟨s, I0, I1, T0, T1, is, next, y0⟩ := c
 dsimp only at his hnx hts hwt hA0 hA1 hn1 h11 hJ1 hb
 subst his; subst hnx
 have hx0 : x = StP.wjj x jn0 jn1 x.is := by unfold StP.wjj; rw [← hj0, ← hj1]
 have hw := waiting1 sn tn0 tn1 x A0 A1 T0 T1 hat ht0 ht1
 rw [hwt] at hw
 obtain ⟨Q, eQ⟩ : ∃ Q, Q = comT1 x.super ⟨s, I0, I1, T0, T1, x.is, x.next, y0⟩ := ⟨_, rfl⟩
 rw [← eQ]
 show Fnc Tryz.prog 61 [pt sn] (rgM ⟨a, s.r⟩ ++ (orcM o ++ (stB sn x :: (jB jn0 a.rn o.on I0 :: (jB jn1 a.rn o.on I1 :: (treM tn0 ⟨A0, T0⟩ ++ treM tn1 ⟨A1, T1⟩)))))) _
 refine fn_intro Tryz.func61 (by kernel_rfl) ?_
 repeat' ((conv => whnf); first
  | refine scope_lab 0 [_, _, _] rfl ?_ | (refine call_g hw (.blk takeC (.grp takeG (.one takeG))) (fun e A' hq => ?_); obtain ⟨ln, cc, jk, z1, z2⟩ := wt_out hq; subst z1; subst z2) | refine nw_row (cs' := regC rg0) rg0_e (fun xn => ?_) | refine draw_any 2 [(0, true), (1, true), (2, true), (3, true), (4, true), (5, true), (6, true), (8, true), (9, true), (10, true), (7, true), (11, false), (12, true), (13, true)] [⟨sn, _⟩] rfl (by kernel_rfl) (kept_of (.cons takeC .nil) ?_) | (refine ifs (fun h => ?_) (fun h => ?_) <;> try (exfalso; first | omega | with_reducible first | contradiction | exact h rfl)))
 all_goals (conv => whnf)
 refine lab_rule [] (fun vs M m => ∃ (s' : Rt) (J0 J1 : JrP) (is' : RgV) (p0 p1 : Nat) (o' : Orc), vs = [] ∧ o'.on = o.on ∧ o'.ts = s'.ts ∧ s'.ts.length ≤ 1099511500000 + 5 * (1 - m) ∧ m ≤ 1 ∧ is'.at_ = true ∧ JAr J0 ∧ JAr J1 ∧ (JOk J1 T1) ∧ (m = 0 → roomJ J1 T1.sheet.length = true) ∧ comT1 x.super ⟨s', J0, J1, T0, T1, is', x.next, y0⟩ = Q ∧
  M = rgM ⟨a, s'.r⟩ ++ (orcM o' ++ (stB sn (StP.wjj x p0 p1 is') :: (jB p0 a.rn o.on J0 :: (jB p1 a.rn o.on J1 :: (treM tn0 ⟨A0, T0⟩ ++ (treM tn1 ⟨A1, T1⟩ ++ (lJ ln [1] jk :: [⟨xn, .row (regC rg0) 34⟩])))))))) rfl rfl ?_ ?_
 · rw [hx0]
   exact fin_g (A := rgM _ ++ (orcM o ++ (stB sn _ :: (jB jn0 a.rn o.on I0 :: (jB jn1 a.rn o.on I1 :: (treM tn0 ⟨A0, T0⟩ ++ (treM tn1 ⟨A1, T1⟩ ++ (lJ ln [1] jk :: [⟨xn, _⟩])))))))) (.grp takeG (.grp takeG (.blk takeC (.blk takeC (.blk takeC (.grp takeG (.grp takeG (.blk takeC (.blk takeC .nil))))))))) ⟨1, s, I0, I1, x.is, jn0, jn1, o, rfl, rfl, hts, by omega, by omega, hat, hA0, hA1, hJ1, (fun h => by cases h), eQ.symm, rfl⟩
 rintro vs junk M' m ⟨s', J0, J1, is', p0, p1, o', rfl, ho', hts', hb', hm, hat', hA0', hA1', hJ1', hr, hcom, rfl⟩
 have hck1 := hJ1'.ck
 have hd1 := hJ1'.d
 have ha1 := hJ1'.area
 have hu1 := hJ1'.used
 have hl1 := chkE_0 hck1
 have hsl1 := srt_len T1.sheet
 have hsh1 : Fnc Tryz.prog 119 [pt tn1] (treM tn1 ⟨A1, T1⟩) (Ret (pt A1.sn) (treM tn1 ⟨A1, T1⟩)) := Tree.tsheet tn1 ⟨A1, T1⟩
 have hsn1 := tlen tn1 A1 T1
 have hroom1 := jroom p1 a.rn o.on J1 T1.sheet.length (by omega) (by omega)
 by_cases hrm : roomJ J1 T1.sheet.length = true
 · have hroomed : comT1 x.super ⟨s', J0, J1, T0, T1, is', x.next, y0⟩ = com1 ⟨s', J0, J1, T0, T1, is', x.next, y0⟩ := by unfold comT1; rw [if_pos hrm]
   have hrm1 := hrm
   rw [hrm1] at hroom1
   have hrt1 : Fnc Tryz.prog 124 [pt tn1] (treM tn1 ⟨A1, T1⟩) (Ret (.agg (dgV T1.root).toArray) (treM tn1 ⟨A1, T1⟩)) := troot tn1 ⟨A1, T1⟩
   have hseq1 := jseq p1 a.rn o.on J1
   have hputs1 := tputs tn1 A1 T1 hn1 h11 (by omega)
   have hwrap1 : IntKind.i64.wrap (J1.seq + 1) = J1.seq + 1 := w64 (by have := hl1.2.1; unfold seqOk at this; omega) (by have := hl1.2.1; unfold seqOk at this; omega)
   have hel1 := appJ_len J1 T1.root (srt T1.sheet) s'
   obtain ⟨E1, eE1⟩ : ∃ E, E = appJ J1 T1.root (srt T1.sheet) s' := ⟨_, rfl⟩
   have hap1 : ∀ (g cap : Nat) (jk : List Value) (o1 : Orc), o1.on = o.on → o1.ts = s'.ts → Fnc Tryz.prog 122 [pt p1, .agg (rcP (J1.seq + 1) T1.root (.slice (some ⟨g, 0, none⟩) T1.sheet.length cap)).toArray] (rgM ⟨a, s'.r⟩ ++ (orcM o1 ++ [jB p1 a.rn o.on J1, ⟨g, .row (flatV (srt T1.sheet) ++ jk) 117⟩]))
    (RetO o1 E1.1.ts (fun o' => rgM ⟨a, E1.1.r⟩ ++ (orcM o' ++ [jB p1 a.rn o.on (appX J1 T1.root (srt T1.sheet) E1.2), ⟨g, .row (flatV (srt T1.sheet) ++ jk) 117⟩])) (.int .i64 E1.2)) := fun g cap jk o1 e1 e2 => by
    have := jappend a s' o1 p1 g cap J1 T1.root (srt T1.sheet) jk 117 e2 (by omega) hck1 (by rw [hsl1]; exact hrm1) hd1 ha1 (by omega)
    rw [hsl1, e1, ← eE1] at this
    exact this
   rw [← eE1] at hel1
   obtain ⟨K1, eK1⟩ : ∃ K, K = appX J1 T1.root (srt T1.sheet) 0 := ⟨_, rfl⟩
   have hK10 : E1.2 = 0 → appX J1 T1.root (srt T1.sheet) E1.2 = K1 := fun h => by rw [h, eK1]
   have hK11 : E1.2 ≠ 0 → appX J1 T1.root (srt T1.sheet) E1.2 = J1 := fun h => by unfold appX; rw [if_neg h]
   have hanc1 := janchor p1 a.rn o.on K1
   have husd1 := jused p1 a.rn o.on K1
   have hfl := fun (ln c : Nat) (jk : List Value) => flushj a E1.1.r sn ln c (StP.wjj x p0 p1 is') [1] jk hrn (by decide)
   obtain ⟨G, eG⟩ : ∃ G, G = lp (flG [1]) [1].length 0 E1.1.r := ⟨_, rfl⟩
   rw [← eG] at hfl
   have hst := setg2 a G.1 sn (StP.wjj x p0 p1 is') (RgV.an (RgV.dm is' x.next) 1 K1.anchor K1.used) hrn
   obtain ⟨S, eS⟩ : ∃ S, S = setG G.1 (RgV.an (RgV.dm is' x.next) 1 K1.anchor K1.used) := ⟨_, rfl⟩
   rw [← eS] at hst
   have hhm1 := homeg a S.1 sn tn1 (StP.wn (StP.wjj x p0 p1 is') (RgV.an (RgV.dm is' x.next) 1 K1.anchor K1.used) (RgV.an (RgV.dm is' x.next) 1 K1.anchor K1.used)) 1 A1 T1 hrn (.inr rfl) ht1 hn1 h11 (by omega)
   obtain ⟨H1, eH1⟩ : ∃ H, H = hmG S.1 1 T1.sheet := ⟨_, rfl⟩
   rw [← eH1] at hhm1
   unfold HmQ at hhm1
   have f1 : ap1 (Cx.go ⟨s', J0, J1, T0, T1, is', x.next, y0⟩) = if E1.2 = 0 then (⟨E1.1, J0, K1, T0, T1, is', x.next, (RgV.an (RgV.dm is' x.next) 1 K1.anchor K1.used)⟩, 0) else (⟨E1.1, J0, J1, T0, T1, is', x.next, (RgV.dm is' x.next)⟩, E1.2) := by rw [eK1, eE1]; rfl
   have f2 : flC [1] ⟨E1.1, J0, K1, T0, T1, is', x.next, (RgV.an (RgV.dm is' x.next) 1 K1.anchor K1.used)⟩ = (⟨⟨G.1, E1.1.ts⟩, J0, K1, T0, T1, is', x.next, (RgV.an (RgV.dm is' x.next) 1 K1.anchor K1.used)⟩, G.2) := by rw [eG]; rfl
   have f3 : sayC ⟨⟨G.1, E1.1.ts⟩, J0, K1, T0, T1, is', x.next, (RgV.an (RgV.dm is' x.next) 1 K1.anchor K1.used)⟩ = if S.2 = 0 then (⟨⟨S.1, E1.1.ts⟩, J0, K1, T0, T1, (RgV.an (RgV.dm is' x.next) 1 K1.anchor K1.used), (RgV.an (RgV.dm is' x.next) 1 K1.anchor K1.used), (RgV.an (RgV.dm is' x.next) 1 K1.anchor K1.used)⟩, 0) else (⟨⟨S.1, E1.1.ts⟩, J0, K1, T0, T1, is', x.next, (RgV.an (RgV.dm is' x.next) 1 K1.anchor K1.used)⟩, S.2) := by rw [eS]; rfl
   have f4 : hm1 ⟨⟨S.1, E1.1.ts⟩, J0, K1, T0, T1, (RgV.an (RgV.dm is' x.next) 1 K1.anchor K1.used), (RgV.an (RgV.dm is' x.next) 1 K1.anchor K1.used), (RgV.an (RgV.dm is' x.next) 1 K1.anchor K1.used)⟩ = if H1.2 = 0 then (⟨⟨H1.1, E1.1.ts⟩, J0, K1, T0, TreP.clr T1, (RgV.an (RgV.dm is' x.next) 1 K1.anchor K1.used), (RgV.an (RgV.dm is' x.next) 1 K1.anchor K1.used), (RgV.an (RgV.dm is' x.next) 1 K1.anchor K1.used)⟩, 0) else (⟨⟨H1.1, E1.1.ts⟩, J0, K1, T0, T1, (RgV.an (RgV.dm is' x.next) 1 K1.anchor K1.used), (RgV.an (RgV.dm is' x.next) 1 K1.anchor K1.used), (RgV.an (RgV.dm is' x.next) 1 K1.anchor K1.used)⟩, H1.2) := by rw [eH1]; rfl
   repeat' ((conv => whnf); first
    | refine draw_any 6 [(0, true), (1, true), (2, true), (3, true), (4, true), (5, true), (7, true), (8, true), (9, true), (10, true), (11, true), (12, true), (6, true), (13, false), (14, false), (15, false), (16, false), (17, true)] [⟨sn, _⟩] rfl (by kernel_rfl) (kept_of (.cons takeC .nil) ?_) | refine draw_any 10 [(0, true), (1, true), (2, true), (3, true), (5, true), (6, true), (7, true), (8, true), (4, true), (10, true), (9, true), (11, false), (12, true), (13, false)] [⟨sn, _⟩] rfl (by kernel_rfl) (kept_of (.cons takeC .nil) ?_) | refine draw_any 14 [(0, true), (1, true), (2, true), (3, true), (4, true), (5, true), (7, true), (8, true), (9, true), (10, true), (11, true), (12, true), (6, true), (14, true), (13, false), (15, true)] [⟨sn, _⟩] rfl (by kernel_rfl) (kept_of (.cons takeC .nil) ?_) | refine draw_any 16 [(0, true), (1, true), (2, true), (4, true), (6, true), (9, true), (3, false), (7, true), (5, false), (8, false), (10, true), (11, false)] [] rfl (by kernel_rfl) (kept_nil ?_) | refine kept_of (.cons takeC .nil) ?_ | refine kept_nil ?_ | refine loop_n 2 ?_ | refine nv_eq (a := 0) rfl ?_ | refine nv_eq (a := 8) rfl ?_ | refine nv_eq (a := 32) rfl ?_ | refine nv_eq (a := 69) rfl ?_ | refine ld1_row (n := ln) (v := .int .i64 1) rfl ?_ | refine fld1_row (n := sn) (v := pt p1) (by rw [stC_8]; rfl) ?_ | refine ld1_row (n := sn) (v := pt tn1) (by rw [stC_9]; show some (Value.pointer x.t1) = _; rw [ht1]) ?_ | refine call_gr hsh1 (.one takeG) ?_ | refine call_gr hsn1 (.one takeG) ?_ | refine call_gr hroom1 (.blk takeC .nil) ?_ | refine call_gr hrt1 (.one takeG) ?_ | refine call_gr hseq1 (.blk takeC .nil) ?_ | (refine wr (fun z hz => ?_); rw [hwrap1] at hz; subst hz) | (refine call_g hputs1 (.one takeG) (fun e A' hq => ?_); obtain ⟨g1, cap1, jkp1, z1, z2⟩ := hq; subst z1; subst z2) | (refine bld_cons (vs := [_]) rfl rfl rfl (Nat.le_of_ble_eq_true rfl) rfl ?_; refine bld_cons (vs := dgV T1.root) (cs1 := rcC (J1.seq + 1) T1.root) rfl rfl (dgV_len _) (Nat.le_of_ble_eq_true rfl) (rzs_e _ _) ?_; refine bld_cons (vs := [_]) (cs1 := rcP (J1.seq + 1) T1.root (.slice (some ⟨g1, 0, none⟩) T1.sheet.length cap1)) rfl rfl rfl (by rw [rcC_len]; exact Nat.le_refl 34) (rcC_P _ _ _) ?_; refine bld_nil ?_) | refine call_gr hanc1 (.blk takeC .nil) ?_ | refine call_gr husd1 (.blk takeC .nil) ?_ | refine st_ra1 ?_ | refine st_r69 ?_ | refine call_go (hap1 g1 cap1 jkp1 o' ho' hts') (.grp takeG (.grp takeG (.blk takeC (.blk takeC .nil)))) (fun o1 a1 b1 => ?_) | (refine call_g (must_any E1.2) .nil (fun e A' hq => ?_); obtain ⟨z0, ⟨c1, z2⟩ | ⟨c1, z2⟩⟩ := hq <;> subst z2 <;> subst z0 <;> first | rw [hK10 c1] | rw [hK11 c1]) | (refine call_g hhm1 (.grp takeG (.blk takeC (.one takeG))) (fun e A' hq => ?_); obtain ⟨v1, m1, z2, z3⟩ | ⟨v1, z2, z3⟩ := hq <;> subst z2 <;> subst z3) | refine ldN_row (n := sn) _ stC_is (regC_len _) ?_ | refine ldN_whole (n := xn) (regC_len _) ?_ | (refine need ?_ ?_; exact regC_len _) | (refine need ?_ ?_; exact dgV_len _) | refine st_rgl rfl ?_ | refine fld1_row (n := sn) stC_nd ?_ | refine fld1_row (n := sn) stC_nm ?_ | refine st_r70 ?_ | refine st_r71 ?_ | refine force_of ?_ | (refine call_g (hfl _ _ _) (.grp takeG (.blk takeC (.blk takeC .nil))) (fun e A' hq => ?_); obtain ⟨⟨t1, t2⟩ | ⟨t1, t2⟩, t3⟩ := hq <;> subst t2 <;> subst t3) | (refine call_g hst (.grp takeG (.blk takeC .nil)) (fun e A' hq => ?_); obtain ⟨u1, u2, u3⟩ | ⟨u1, u2, u3⟩ := hq <;> subst u2 <;> subst u3) | refine st_nx ?_ | refine need (by first | rfl | omega) ?_ | (refine wr (fun z hz => ?_); (try rw [Int.tdiv_eq_ediv_of_nonneg (by omega)] at hz); rw [w64 (by omega) (by omega)] at hz; subst hz) | (refine ifs (fun h => ?_) (fun h => ?_) <;> try (exfalso; first | omega | with_reducible first | contradiction | exact h rfl)))
   all_goals (conv => whnf)
   · have hQ : com1 ⟨s', J0, J1, T0, T1, is', x.next, y0⟩ = (⟨⟨H1.1, E1.1.ts⟩, J0, K1, T0, TreP.clr T1, (RgV.an (RgV.dm is' x.next) 1 K1.anchor K1.used), (RgV.an (RgV.dm is' x.next) 1 K1.anchor K1.used), (RgV.an (RgV.dm is' x.next) 1 K1.anchor K1.used)⟩, 0) := by unfold com1; rw [f1, if_pos c1, bd_pok rfl, f2, bd_pok t1, f3, if_pos u1, bd_pok rfl, f4, if_pos v1]
     rw [← hcom, hroomed, hQ]
     exact fin_g (A := rgM _ ++ (orcM o1 ++ (stB sn _ :: (jB p0 a.rn o.on J0 :: (jB p1 a.rn o.on K1 :: (treM tn0 ⟨A0, T0⟩ ++ treM tn1 ⟨TreA.wm A1 m1, TreP.clr T1⟩)))))) (.grp takeG (.grp takeG (.blk takeC (.blk takeC (.blk takeC (.grp takeG (.one takeG))))))) ⟨o1, A0, TreA.wm A1 m1, p0, p1, a1.trans ho', b1, rfl, rfl, rfl, rfl, .inl ⟨rfl, rfl⟩, rfl⟩
   · have hQ : com1 ⟨s', J0, J1, T0, T1, is', x.next, y0⟩ = (⟨⟨H1.1, E1.1.ts⟩, J0, K1, T0, T1, (RgV.an (RgV.dm is' x.next) 1 K1.anchor K1.used), (RgV.an (RgV.dm is' x.next) 1 K1.anchor K1.used), (RgV.an (RgV.dm is' x.next) 1 K1.anchor K1.used)⟩, H1.2) := by unfold com1; rw [f1, if_pos c1, bd_pok rfl, f2, bd_pok t1, f3, if_pos u1, bd_pok rfl, f4, if_neg v1]
     rw [← hcom, hroomed, hQ]
     exact fin_g (A := rgM _ ++ (orcM o1 ++ (stB sn _ :: (jB p0 a.rn o.on J0 :: (jB p1 a.rn o.on K1 :: (treM tn0 ⟨A0, T0⟩ ++ treM tn1 ⟨A1, T1⟩)))))) (.grp takeG (.grp takeG (.blk takeC (.blk takeC (.blk takeC (.grp takeG (.one takeG))))))) ⟨o1, A0, A1, p0, p1, a1.trans ho', b1, rfl, rfl, rfl, rfl, .inr ⟨v1, rfl⟩, rfl⟩
   · have hQ : com1 ⟨s', J0, J1, T0, T1, is', x.next, y0⟩ = (⟨⟨S.1, E1.1.ts⟩, J0, K1, T0, T1, is', x.next, (RgV.an (RgV.dm is' x.next) 1 K1.anchor K1.used)⟩, S.2) := by unfold com1; rw [f1, if_pos c1, bd_pok rfl, f2, bd_pok t1, f3, if_neg u1, bd_pno u1]
     rw [← hcom, hroomed, hQ]
     exact fin_g (A := rgM _ ++ (orcM o1 ++ (stB sn _ :: (jB p0 a.rn o.on J0 :: (jB p1 a.rn o.on K1 :: (treM tn0 ⟨A0, T0⟩ ++ treM tn1 ⟨A1, T1⟩)))))) (.grp takeG (.grp takeG (.blk takeC (.blk takeC (.blk takeC (.grp takeG (.one takeG))))))) ⟨o1, A0, A1, p0, p1, a1.trans ho', b1, rfl, rfl, rfl, rfl, .inr ⟨u1, rfl⟩, rfl⟩
   · have hQ : com1 ⟨s', J0, J1, T0, T1, is', x.next, y0⟩ = (⟨⟨G.1, E1.1.ts⟩, J0, K1, T0, T1, is', x.next, (RgV.an (RgV.dm is' x.next) 1 K1.anchor K1.used)⟩, G.2) := by unfold com1; rw [f1, if_pos c1, bd_pok rfl, f2, bd_pno t1]
     rw [← hcom, hroomed, hQ]
     exact fin_g (A := rgM _ ++ (orcM o1 ++ (stB sn _ :: (jB p0 a.rn o.on J0 :: (jB p1 a.rn o.on K1 :: (treM tn0 ⟨A0, T0⟩ ++ treM tn1 ⟨A1, T1⟩)))))) (.grp takeG (.grp takeG (.blk takeC (.blk takeC (.blk takeC (.grp takeG (.one takeG))))))) ⟨o1, A0, A1, p0, p1, a1.trans ho', b1, rfl, rfl, rfl, rfl, .inr ⟨t1, rfl⟩, rfl⟩
   · have hQ : com1 ⟨s', J0, J1, T0, T1, is', x.next, y0⟩ = (⟨E1.1, J0, J1, T0, T1, is', x.next, (RgV.dm is' x.next)⟩, E1.2) := by unfold com1; rw [f1, if_neg c1, bd_pno c1]
     rw [← hcom, hroomed, hQ]
     exact fin_g (A := rgM _ ++ (orcM o1 ++ (stB sn _ :: (jB p0 a.rn o.on J0 :: (jB p1 a.rn o.on J1 :: (treM tn0 ⟨A0, T0⟩ ++ treM tn1 ⟨A1, T1⟩)))))) (.grp takeG (.grp takeG (.blk takeC (.blk takeC (.blk takeC (.grp takeG (.one takeG))))))) ⟨o1, A0, A1, p0, p1, a1.trans ho', b1, rfl, rfl, rfl, rfl, .inr ⟨c1, rfl⟩, rfl⟩
 · have hm1 : m = 1 := by
    rcases Nat.eq_zero_or_pos m with h0 | h0
    · exact absurd (hr h0) hrm
    · omega
   subst hm1
   have hdv := devices_ sn (StP.wjj x p0 p1 is') hat'
   have hok := areas2_ok (super := x.super) (q := ⟨s', J0, J1, is'⟩)
   have hcomF : comT1 x.super ⟨s', J0, J1, T0, T1, is', x.next, y0⟩ = bd (τ := Cx) (enA2 x.super ⟨s', J0, J1, T0, T1, is', x.next, y0⟩) com1 := by unfold comT1; rw [if_neg hrm]
   obtain ⟨q, eq⟩ : ∃ q, q = areas2G x.super ⟨s', J0, J1, is'⟩ := ⟨_, rfl⟩
   have hen : enA2 x.super ⟨s', J0, J1, T0, T1, is', x.next, y0⟩ = if q.2 = 0 then (⟨q.1.s, q.1.j0, q.1.j1, T0, T1, q.1.y, x.next, y0⟩, 0) else (⟨q.1.s, q.1.j0, q.1.j1, T0, T1, is', x.next, y0⟩, q.2) := by rw [eq]; rfl
   rw [← eq] at hok
   have hA : ∀ l2, Fnc Tryz.prog 121 [pt sn, .agg (regC is').toArray, .slice (some ⟨l2, 0, none⟩) 2 2] (⟨l2, .cells [.int .i64 0, .int .i64 1] 3⟩ :: (rgM ⟨a, s'.r⟩ ++ (orcM o' ++ [stB sn (StP.wjj x p0 p1 is'), jB p0 a.rn o.on J0, jB p1 a.rn o.on J1])))
    (fun e M => ∃ (o2 : Orc) (r0 r1 : Nat), o2.on = o.on ∧ o2.ts = q.1.s.ts ∧ ((q.2 = 0 ∧ e = .returned (.tuple #[]) ∧ M = rgM ⟨a, q.1.s.r⟩ ++ (orcM o2 ++ [stB sn (StP.wjj x r0 r1 q.1.y), jB r0 a.rn o.on q.1.j0, jB r1 a.rn o.on q.1.j1])) ∨ (q.2 ≠ 0 ∧ e = .panicked (pe q.2) ∧ M = rgM ⟨a, q.1.s.r⟩ ++ (orcM o2 ++ [stB sn (StP.wjj x r0 r1 is'), jB r0 a.rn o.on q.1.j0, jB r1 a.rn o.on q.1.j1])))) := fun l2 => by
    have h := areas2 a ⟨s', J0, J1, is'⟩ o' sn l2 2 p0 p1 (StP.wjj x p0 p1 is') hrn (hon.trans ho'.symm) hts' rfl rfl hs64 hA0'.area hA0'.sq hA1'.area hA1'.sq (by show s'.ts.length ≤ _; omega)
    rw [show (StP.wjj x p0 p1 is').super = x.super from rfl, ← eq, ho'] at h
    refine Fnc_row (Fnc_perm (Fnc_mono h ?_) ((TakesG.perm (M := rgM ⟨a, s'.r⟩ ++ (orcM o' ++ [stB sn (StP.wjj x p0 p1 is'), jB p0 a.rn o.on J0, jB p1 a.rn o.on J1, lB l2 [0, 1]])) (A := lB l2 [0, 1] :: (rgM ⟨a, s'.r⟩ ++ (orcM o' ++ [stB sn (StP.wjj x p0 p1 is'), jB p0 a.rn o.on J0, jB p1 a.rn o.on J1]))) (R := []) (.blk takeC (.grp takeG (.grp takeG (.blk takeC (.blk takeC (.blk takeC .nil))))))).trans (by rw [List.append_nil]; exact List.Perm.refl _)))
    rintro e M ⟨o2, r0, r1, g1, g2, ⟨g3, g4⟩ | ⟨g3, g4⟩, g5⟩
    · rw [if_pos g3] at g5; exact ⟨o2, r0, r1, g1, g2, .inl ⟨g3, g4, g5⟩⟩
    · rw [if_neg g3] at g5; exact ⟨o2, r0, r1, g1, g2, .inr ⟨g3, g4, g5⟩⟩
   have hfin : q.2 = 0 → JAr q.1.j0 ∧ JAr q.1.j1 ∧ (JOk q.1.j1 T1) ∧ (roomJ q.1.j1 T1.sheet.length = true) ∧ q.1.y.at_ = true ∧ q.1.s.ts.length ≤ 1099511500000 + 5 * (1 - 0) ∧ comT1 x.super ⟨q.1.s, q.1.j0, q.1.j1, T0, T1, q.1.y, x.next, y0⟩ = Q := fun g3 => by
    obtain ⟨k0, k1, k2, k3⟩ := hok g3
    have hf0 := begJ_f x.super 0 (1 - J0.area) J0.seq J0.root
    have hf1 := begJ_f x.super 1 (1 - J1.area) J1.seq J1.root
    have hrq : roomJ q.1.j1 T1.sheet.length = true := by rw [k1]; exact room_beg _ _ _ _ _ h11 (by omega)
    refine ⟨⟨by rw [k0, hf0.2.2.1]; omega, by rw [k0, hf0.1]; exact hA0'.sq⟩, ⟨by rw [k1, hf1.2.2.1]; omega, by rw [k1, hf1.1]; exact hA1'.sq⟩, ⟨by rw [k1, hf1.1]; exact hck1, by rw [k1, hf1.2.1]; omega, by rw [k1, hf1.2.2.1]; omega, by rw [k1, hf1.2.2.2.1]; omega, by rw [k1, hf1.1]; exact hJ1'.sq⟩, hrq, k2.trans hat', by dsimp only at k3; omega, ?_⟩
    rw [← hcom, hcomF, hen, if_pos g3, bd_pok rfl]; unfold comT1; rw [if_pos hrq]
   rw [show roomJ J1 T1.sheet.length = false by simpa using hrm] at hroom1
   repeat' ((conv => whnf); first
    | refine draw_any 6 [(0, true), (1, true), (2, true), (3, true), (4, true), (5, true), (7, true), (8, true), (9, true), (10, true), (11, true), (12, true), (6, true), (13, false), (14, false), (15, false), (16, false), (17, true)] [⟨sn, _⟩] rfl (by kernel_rfl) (kept_of (.cons takeC .nil) ?_) | refine draw_pan 7 (.take 0 (.take 1 (.take 2 (.take 3 (.take 5 (.two 4 6 (.only 6 (.only 7 .nil)) (.only 4 (.only 7 .nil)))))))) [] rfl (by kernel_rfl) (fun _ _ _ _ h => h) (kept_nil ?_) | refine kept_nil ?_ | refine And.intro ?_ ?_ | refine kept_of (.cons takeC .nil) ?_ | refine loop_n 2 ?_ | refine nv_eq (a := 0) rfl ?_ | refine nv_eq (a := 8) rfl ?_ | refine ld1_row (n := ln) (v := .int .i64 1) rfl ?_ | refine fld1_row (n := sn) (v := pt p1) (by rw [stC_8]; rfl) ?_ | refine ld1_row (n := sn) (v := pt tn1) (by rw [stC_9]; show some (Value.pointer x.t1) = _; rw [ht1]) ?_ | refine call_gr hsh1 (.one takeG) ?_ | refine call_gr hsn1 (.one takeG) ?_ | refine call_gr hroom1 (.blk takeC .nil) ?_ | refine ldN_row (n := sn) _ stC_is (regC_len _) ?_ | (refine call_g hdv (.blk takeC .nil) (fun e A' hq => ?_); obtain ⟨l2, z1, z2⟩ := hq; subst z1; subst z2) | (refine call_g (hA l2) (.blk takeC (.grp takeG (.grp takeG (.blk takeC (.blk takeC (.blk takeC .nil)))))) (fun e A' hq => ?_); obtain ⟨o2, r0, r1, g1, g2, ⟨g3, g4, g5⟩ | ⟨g3, g4, g5⟩⟩ := hq <;> subst g4 <;> subst g5) | refine need (by first | rfl | omega) ?_ | (refine ifs (fun h => ?_) (fun h => ?_) <;> try (exfalso; first | omega | with_reducible first | contradiction | exact h rfl)))
   all_goals (conv => whnf)
   · rfl
   · obtain ⟨k0, k1, k2, k3, k4, k5, k6⟩ := hfin g3
     exact fin_g (A := rgM _ ++ (orcM o2 ++ (stB sn _ :: (jB r0 a.rn o.on q.1.j0 :: (jB r1 a.rn o.on q.1.j1 :: (treM tn0 ⟨A0, T0⟩ ++ (treM tn1 ⟨A1, T1⟩ ++ (lJ ln [1] jk :: [⟨xn, _⟩])))))))) (.grp takeG (.grp takeG (.blk takeC (.blk takeC (.blk takeC (.grp takeG (.grp takeG (.blk takeC (.blk takeC .nil)))))))))
      ⟨0, by omega, q.1.s, q.1.j0, q.1.j1, q.1.y, r0, r1, o2, rfl, g1, g2, k5, by omega, k4, k0, k1, k2, fun _ => k3, k6, rfl⟩
   · rw [← hcom, hcomF, hen, if_neg g3, bd_pno g3]
     exact fin_g (A := rgM _ ++ (orcM o2 ++ (stB sn _ :: (jB r0 a.rn o.on q.1.j0 :: (jB r1 a.rn o.on q.1.j1 :: (treM tn0 ⟨A0, T0⟩ ++ treM tn1 ⟨A1, T1⟩)))))) (.grp takeG (.grp takeG (.blk takeC (.blk takeC (.blk takeC (.grp takeG (.one takeG))))))) ⟨o2, A0, A1, r0, r1, g1, g2, rfl, rfl, rfl, rfl, .inr ⟨g3, rfl⟩, rfl⟩
   · rfl
   · obtain ⟨k0, k1, k2, k3, k4, k5, k6⟩ := hfin g3
     exact fin_g (A := rgM _ ++ (orcM o2 ++ (stB sn _ :: (jB r0 a.rn o.on q.1.j0 :: (jB r1 a.rn o.on q.1.j1 :: (treM tn0 ⟨A0, T0⟩ ++ (treM tn1 ⟨A1, T1⟩ ++ (lJ ln [1] jk :: [⟨xn, _⟩])))))))) (.grp takeG (.grp takeG (.blk takeC (.blk takeC (.blk takeC (.grp takeG (.grp takeG (.blk takeC (.blk takeC .nil)))))))))
      ⟨0, by omega, q.1.s, q.1.j0, q.1.j1, q.1.y, r0, r1, o2, rfl, g1, g2, k5, by omega, k4, k0, k1, k2, fun _ => k3, k6, rfl⟩
   · rw [← hcom, hcomF, hen, if_neg g3, bd_pno g3]
     exact fin_g (A := rgM _ ++ (orcM o2 ++ (stB sn _ :: (jB r0 a.rn o.on q.1.j0 :: (jB r1 a.rn o.on q.1.j1 :: (treM tn0 ⟨A0, T0⟩ ++ treM tn1 ⟨A1, T1⟩)))))) (.grp takeG (.grp takeG (.blk takeC (.blk takeC (.blk takeC (.grp takeG (.one takeG))))))) ⟨o2, A0, A1, r0, r1, g1, g2, rfl, rfl, rfl, rfl, .inr ⟨g3, rfl⟩, rfl⟩
end Stg
end Go.Proofs.YtkjamonkohpcnaaGreat
