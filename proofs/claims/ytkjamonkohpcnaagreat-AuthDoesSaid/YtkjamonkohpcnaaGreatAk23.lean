/- Texts of this proof, merged. -/
import Derived.Test.YtkjamonkohpcnaaGreatAk18
import Derived.Test.YtkjamonkohpcnaaGreatAk21
import Derived.Test.YtkjamonkohpcnaaGreatAk22
import Derived.Test.YtkjamonkohpcnaaGreatAk20
set_option linter.unusedVariables false
set_option linter.unusedSimpArgs false
set_option linter.unusedSectionVars false
set_option maxRecDepth 100000
set_option maxHeartbeats 16000000
namespace Go.Proofs.YtkjamonkohpcnaaGreat
namespace Stg
open Go Ev Sha Aes Orc Node Rec Chn Jrn Cau Sto Srt
open Rig (Fnc_takeR RigP Rg rgM readR writeR flushR setRegR z64 app_of tick comes write_ flush_ setreg_ mayE RigA)
open Tree (TreP TreA Tre treM shB mpB treC)
noncomputable def comT01 (super : ByteArray) (c : Cx) : Cx × Int := if roomJ c.j0 c.t0.sheet.length = true ∧ roomJ c.j1 c.t1.sheet.length = true then com01 c else bd (τ := Cx) (enA2 super c) com01
attribute [local irreducible] dgV D jC wrF rcC stC regC RgV.lay rgM setRegR writeR rcP recB begJ beginG bare BareT setG treC flatV Builtin.append_ Builtin.len_ appJ appX hmG srt roomJ areas2G
theorem commitT01 (a : RigA) (c : Cx) (o : Orc) (sn jn0 jn1 tn0 tn1 : Nat) (x : StP) (A0 A1 : TreA) (hrn : x.rn = a.rn) (hon : x.on = o.on) (hts : o.ts = c.s.ts) (his : x.is = c.is) (hnx : x.next = c.next) (hj0 : x.j0 = some ⟨jn0, 0, none⟩) (ht0 : x.t0 = some ⟨tn0, 0, none⟩) (hj1 : x.j1 = some ⟨jn1, 0, none⟩) (ht1 : x.t1 = some ⟨tn1, 0, none⟩) (hs64 : x.super.size = 64) (hat : x.is.at_ = true)
 (hwt : wtL c.t0.sheet.length c.t1.sheet.length = [0, 1]) (hA0 : JAr c.j0) (hA1 : JAr c.j1) (hn0 : (c.t0.sheet.map (·.1)).Nodup) (h10 : 1 ≤ c.t0.sheet.length) (hJ0 : JOk c.j0 c.t0) (hn1 : (c.t1.sheet.map (·.1)).Nodup) (h11 : 1 ≤ c.t1.sheet.length) (hJ1 : JOk c.j1 c.t1) (hb : c.s.ts.length ≤ 1099511500000) :
 Fnc Tryz.prog 61 [pt sn] (c2M a o sn jn0 jn1 tn0 tn1 a.rn o.on x A0 A1 c) (CTQ a o sn tn0 tn1 x A0 A1 (comT01 x.super c)) := by
 obtain ⟨s, I0, I1, T0, T1, is, next, y0⟩ := c
 dsimp only at his hnx hts hwt hA0 hA1 hn0 h10 hJ0 hn1 h11 hJ1 hb
 subst his; subst hnx
 have hx0 : x = StP.wjj x jn0 jn1 x.is := by unfold StP.wjj; rw [← hj0, ← hj1]
 have hw := waiting1 sn tn0 tn1 x A0 A1 T0 T1 hat ht0 ht1
 rw [hwt] at hw
 obtain ⟨Q, eQ⟩ : ∃ Q, Q = comT01 x.super ⟨s, I0, I1, T0, T1, x.is, x.next, y0⟩ := ⟨_, rfl⟩
 rw [← eQ]
 show Fnc Tryz.prog 61 [pt sn] (rgM ⟨a, s.r⟩ ++ (orcM o ++ (stB sn x :: (jB jn0 a.rn o.on I0 :: (jB jn1 a.rn o.on I1 :: (treM tn0 ⟨A0, T0⟩ ++ treM tn1 ⟨A1, T1⟩)))))) _
 refine fn_intro Tryz.func61 (by kernel_rfl) ?_
 repeat' ((conv => whnf); first
  | refine scope_lab 0 [_, _, _] rfl ?_ | (refine call_g hw (.blk takeC (.grp takeG (.one takeG))) (fun e A' hq => ?_); obtain ⟨ln, cc, jk, z1, z2⟩ := wt_out hq; subst z1; subst z2) | refine nw_row (cs' := regC rg0) rg0_e (fun xn => ?_) | refine draw_any 2 [(0, true), (1, true), (2, true), (3, true), (4, true), (5, true), (6, true), (8, true), (9, true), (10, true), (7, true), (11, false), (12, true), (13, true)] [⟨sn, _⟩] rfl (by kernel_rfl) (kept_of (.cons takeC .nil) ?_) | (refine ifs (fun h => ?_) (fun h => ?_) <;> try (exfalso; first | omega | with_reducible first | contradiction | exact h rfl)))
 all_goals (conv => whnf)
 refine lab_rule [] (fun vs M m => ∃ (s' : Rt) (J0 J1 : JrP) (is' : RgV) (p0 p1 : Nat) (o' : Orc), vs = [] ∧ o'.on = o.on ∧ o'.ts = s'.ts ∧ s'.ts.length ≤ 1099511500000 + 5 * (1 - m) ∧ m ≤ 1 ∧ is'.at_ = true ∧ JAr J0 ∧ JAr J1 ∧ (JOk J0 T0 ∧ JOk J1 T1) ∧ (m = 0 → roomJ J0 T0.sheet.length = true ∧ roomJ J1 T1.sheet.length = true) ∧ comT01 x.super ⟨s', J0, J1, T0, T1, is', x.next, y0⟩ = Q ∧
  M = rgM ⟨a, s'.r⟩ ++ (orcM o' ++ (stB sn (StP.wjj x p0 p1 is') :: (jB p0 a.rn o.on J0 :: (jB p1 a.rn o.on J1 :: (treM tn0 ⟨A0, T0⟩ ++ (treM tn1 ⟨A1, T1⟩ ++ (lJ ln [0, 1] jk :: [⟨xn, .row (regC rg0) 34⟩])))))))) rfl rfl ?_ ?_
 · rw [hx0]
   exact fin_g (A := rgM _ ++ (orcM o ++ (stB sn _ :: (jB jn0 a.rn o.on I0 :: (jB jn1 a.rn o.on I1 :: (treM tn0 ⟨A0, T0⟩ ++ (treM tn1 ⟨A1, T1⟩ ++ (lJ ln [0, 1] jk :: [⟨xn, _⟩])))))))) (.grp takeG (.grp takeG (.blk takeC (.blk takeC (.blk takeC (.grp takeG (.grp takeG (.blk takeC (.blk takeC .nil))))))))) ⟨1, s, I0, I1, x.is, jn0, jn1, o, rfl, rfl, hts, by omega, by omega, hat, hA0, hA1, ⟨hJ0, hJ1⟩, (fun h => by cases h), eQ.symm, rfl⟩
 rintro vs junk M' m ⟨s', J0, J1, is', p0, p1, o', rfl, ho', hts', hb', hm, hat', hA0', hA1', ⟨hJ0', hJ1'⟩, hr, hcom, rfl⟩
 have hck0 := hJ0'.ck
 have hd0 := hJ0'.d
 have ha0 := hJ0'.area
 have hu0 := hJ0'.used
 have hl0 := chkE_0 hck0
 have hsl0 := srt_len T0.sheet
 have hsh0 : Fnc Tryz.prog 119 [pt tn0] (treM tn0 ⟨A0, T0⟩) (Ret (pt A0.sn) (treM tn0 ⟨A0, T0⟩)) := Tree.tsheet tn0 ⟨A0, T0⟩
 have hsn0 := tlen tn0 A0 T0
 have hroom0 := jroom p0 a.rn o.on J0 T0.sheet.length (by omega) (by omega)
 have hck1 := hJ1'.ck
 have hd1 := hJ1'.d
 have ha1 := hJ1'.area
 have hu1 := hJ1'.used
 have hl1 := chkE_0 hck1
 have hsl1 := srt_len T1.sheet
 have hsh1 : Fnc Tryz.prog 119 [pt tn1] (treM tn1 ⟨A1, T1⟩) (Ret (pt A1.sn) (treM tn1 ⟨A1, T1⟩)) := Tree.tsheet tn1 ⟨A1, T1⟩
 have hsn1 := tlen tn1 A1 T1
 have hroom1 := jroom p1 a.rn o.on J1 T1.sheet.length (by omega) (by omega)
 by_cases hrm : roomJ J0 T0.sheet.length = true ∧ roomJ J1 T1.sheet.length = true
 · have hroomed : comT01 x.super ⟨s', J0, J1, T0, T1, is', x.next, y0⟩ = com01 ⟨s', J0, J1, T0, T1, is', x.next, y0⟩ := by unfold comT01; rw [if_pos hrm]
   obtain ⟨hrm0, hrm1⟩ := hrm
   rw [hrm0] at hroom0
   have hrt0 : Fnc Tryz.prog 124 [pt tn0] (treM tn0 ⟨A0, T0⟩) (Ret (.agg (dgV T0.root).toArray) (treM tn0 ⟨A0, T0⟩)) := troot tn0 ⟨A0, T0⟩
   have hseq0 := jseq p0 a.rn o.on J0
   have hputs0 := tputs tn0 A0 T0 hn0 h10 (by omega)
   have hwrap0 : IntKind.i64.wrap (J0.seq + 1) = J0.seq + 1 := w64 (by have := hl0.2.1; unfold seqOk at this; omega) (by have := hl0.2.1; unfold seqOk at this; omega)
   rw [hrm1] at hroom1
   have hrt1 : Fnc Tryz.prog 124 [pt tn1] (treM tn1 ⟨A1, T1⟩) (Ret (.agg (dgV T1.root).toArray) (treM tn1 ⟨A1, T1⟩)) := troot tn1 ⟨A1, T1⟩
   have hseq1 := jseq p1 a.rn o.on J1
   have hputs1 := tputs tn1 A1 T1 hn1 h11 (by omega)
   have hwrap1 : IntKind.i64.wrap (J1.seq + 1) = J1.seq + 1 := w64 (by have := hl1.2.1; unfold seqOk at this; omega) (by have := hl1.2.1; unfold seqOk at this; omega)
   have hel0 := appJ_len J0 T0.root (srt T0.sheet) s'
   obtain ⟨E0, eE0⟩ : ∃ E, E = appJ J0 T0.root (srt T0.sheet) s' := ⟨_, rfl⟩
   have hap0 : ∀ (g cap : Nat) (jk : List Value) (o1 : Orc), o1.on = o.on → o1.ts = s'.ts → Fnc Tryz.prog 122 [pt p0, .agg (rcP (J0.seq + 1) T0.root (.slice (some ⟨g, 0, none⟩) T0.sheet.length cap)).toArray] (rgM ⟨a, s'.r⟩ ++ (orcM o1 ++ [jB p0 a.rn o.on J0, ⟨g, .row (flatV (srt T0.sheet) ++ jk) 117⟩]))
    (RetO o1 E0.1.ts (fun o' => rgM ⟨a, E0.1.r⟩ ++ (orcM o' ++ [jB p0 a.rn o.on (appX J0 T0.root (srt T0.sheet) E0.2), ⟨g, .row (flatV (srt T0.sheet) ++ jk) 117⟩])) (.int .i64 E0.2)) := fun g cap jk o1 e1 e2 => by
    have := jappend a s' o1 p0 g cap J0 T0.root (srt T0.sheet) jk 117 e2 (by omega) hck0 (by rw [hsl0]; exact hrm0) hd0 ha0 (by omega)
    rw [hsl0, e1, ← eE0] at this
    exact this
   rw [← eE0] at hel0
   obtain ⟨K0, eK0⟩ : ∃ K, K = appX J0 T0.root (srt T0.sheet) 0 := ⟨_, rfl⟩
   have hK00 : E0.2 = 0 → appX J0 T0.root (srt T0.sheet) E0.2 = K0 := fun h => by rw [h, eK0]
   have hK01 : E0.2 ≠ 0 → appX J0 T0.root (srt T0.sheet) E0.2 = J0 := fun h => by unfold appX; rw [if_neg h]
   have hanc0 := janchor p0 a.rn o.on K0
   have husd0 := jused p0 a.rn o.on K0
   have hel1 := appJ_len J1 T1.root (srt T1.sheet) E0.1
   obtain ⟨E1, eE1⟩ : ∃ E, E = appJ J1 T1.root (srt T1.sheet) E0.1 := ⟨_, rfl⟩
   have hap1 : ∀ (g cap : Nat) (jk : List Value) (o1 : Orc), o1.on = o.on → o1.ts = E0.1.ts → Fnc Tryz.prog 122 [pt p1, .agg (rcP (J1.seq + 1) T1.root (.slice (some ⟨g, 0, none⟩) T1.sheet.length cap)).toArray] (rgM ⟨a, E0.1.r⟩ ++ (orcM o1 ++ [jB p1 a.rn o.on J1, ⟨g, .row (flatV (srt T1.sheet) ++ jk) 117⟩]))
    (RetO o1 E1.1.ts (fun o' => rgM ⟨a, E1.1.r⟩ ++ (orcM o' ++ [jB p1 a.rn o.on (appX J1 T1.root (srt T1.sheet) E1.2), ⟨g, .row (flatV (srt T1.sheet) ++ jk) 117⟩])) (.int .i64 E1.2)) := fun g cap jk o1 e1 e2 => by
    have := jappend a E0.1 o1 p1 g cap J1 T1.root (srt T1.sheet) jk 117 e2 (by omega) hck1 (by rw [hsl1]; exact hrm1) hd1 ha1 (by omega)
    rw [hsl1, e1, ← eE1] at this
    exact this
   rw [← eE1] at hel1
   obtain ⟨K1, eK1⟩ : ∃ K, K = appX J1 T1.root (srt T1.sheet) 0 := ⟨_, rfl⟩
   have hK10 : E1.2 = 0 → appX J1 T1.root (srt T1.sheet) E1.2 = K1 := fun h => by rw [h, eK1]
   have hK11 : E1.2 ≠ 0 → appX J1 T1.root (srt T1.sheet) E1.2 = J1 := fun h => by unfold appX; rw [if_neg h]
   have hanc1 := janchor p1 a.rn o.on K1
   have husd1 := jused p1 a.rn o.on K1
   have hfl := fun (ln c : Nat) (jk : List Value) => flushj a E1.1.r sn ln c (StP.wjj x p0 p1 is') [0, 1] jk hrn (by decide)
   obtain ⟨G, eG⟩ : ∃ G, G = lp (flG [0, 1]) [0, 1].length 0 E1.1.r := ⟨_, rfl⟩
   rw [← eG] at hfl
   have hst := setg2 a G.1 sn (StP.wjj x p0 p1 is') (RgV.an (RgV.an (RgV.dm is' x.next) 0 K0.anchor K0.used) 1 K1.anchor K1.used) hrn
   obtain ⟨S, eS⟩ : ∃ S, S = setG G.1 (RgV.an (RgV.an (RgV.dm is' x.next) 0 K0.anchor K0.used) 1 K1.anchor K1.used) := ⟨_, rfl⟩
   rw [← eS] at hst
   have hhm0 := homeg a S.1 sn tn0 (StP.wn (StP.wjj x p0 p1 is') (RgV.an (RgV.an (RgV.dm is' x.next) 0 K0.anchor K0.used) 1 K1.anchor K1.used) (RgV.an (RgV.an (RgV.dm is' x.next) 0 K0.anchor K0.used) 1 K1.anchor K1.used)) 0 A0 T0 hrn (.inl rfl) ht0 hn0 h10 (by omega)
   obtain ⟨H0, eH0⟩ : ∃ H, H = hmG S.1 0 T0.sheet := ⟨_, rfl⟩
   rw [← eH0] at hhm0
   unfold HmQ at hhm0
   have hhm1 := homeg a H0.1 sn tn1 (StP.wn (StP.wjj x p0 p1 is') (RgV.an (RgV.an (RgV.dm is' x.next) 0 K0.anchor K0.used) 1 K1.anchor K1.used) (RgV.an (RgV.an (RgV.dm is' x.next) 0 K0.anchor K0.used) 1 K1.anchor K1.used)) 1 A1 T1 hrn (.inr rfl) ht1 hn1 h11 (by omega)
   obtain ⟨H1, eH1⟩ : ∃ H, H = hmG H0.1 1 T1.sheet := ⟨_, rfl⟩
   rw [← eH1] at hhm1
   unfold HmQ at hhm1
   have f1 : ap0 (Cx.go ⟨s', J0, J1, T0, T1, is', x.next, y0⟩) = if E0.2 = 0 then (⟨E0.1, K0, J1, T0, T1, is', x.next, (RgV.an (RgV.dm is' x.next) 0 K0.anchor K0.used)⟩, 0) else (⟨E0.1, J0, J1, T0, T1, is', x.next, (RgV.dm is' x.next)⟩, E0.2) := by rw [eK0, eE0]; rfl
   have f2 : ap1 ⟨E0.1, K0, J1, T0, T1, is', x.next, (RgV.an (RgV.dm is' x.next) 0 K0.anchor K0.used)⟩ = if E1.2 = 0 then (⟨E1.1, K0, K1, T0, T1, is', x.next, (RgV.an (RgV.an (RgV.dm is' x.next) 0 K0.anchor K0.used) 1 K1.anchor K1.used)⟩, 0) else (⟨E1.1, K0, J1, T0, T1, is', x.next, (RgV.an (RgV.dm is' x.next) 0 K0.anchor K0.used)⟩, E1.2) := by rw [eK1, eE1]; rfl
   have f3 : flC [0, 1] ⟨E1.1, K0, K1, T0, T1, is', x.next, (RgV.an (RgV.an (RgV.dm is' x.next) 0 K0.anchor K0.used) 1 K1.anchor K1.used)⟩ = (⟨⟨G.1, E1.1.ts⟩, K0, K1, T0, T1, is', x.next, (RgV.an (RgV.an (RgV.dm is' x.next) 0 K0.anchor K0.used) 1 K1.anchor K1.used)⟩, G.2) := by rw [eG]; rfl
   have f4 : sayC ⟨⟨G.1, E1.1.ts⟩, K0, K1, T0, T1, is', x.next, (RgV.an (RgV.an (RgV.dm is' x.next) 0 K0.anchor K0.used) 1 K1.anchor K1.used)⟩ = if S.2 = 0 then (⟨⟨S.1, E1.1.ts⟩, K0, K1, T0, T1, (RgV.an (RgV.an (RgV.dm is' x.next) 0 K0.anchor K0.used) 1 K1.anchor K1.used), (RgV.an (RgV.an (RgV.dm is' x.next) 0 K0.anchor K0.used) 1 K1.anchor K1.used), (RgV.an (RgV.an (RgV.dm is' x.next) 0 K0.anchor K0.used) 1 K1.anchor K1.used)⟩, 0) else (⟨⟨S.1, E1.1.ts⟩, K0, K1, T0, T1, is', x.next, (RgV.an (RgV.an (RgV.dm is' x.next) 0 K0.anchor K0.used) 1 K1.anchor K1.used)⟩, S.2) := by rw [eS]; rfl
   have f5 : hm0 ⟨⟨S.1, E1.1.ts⟩, K0, K1, T0, T1, (RgV.an (RgV.an (RgV.dm is' x.next) 0 K0.anchor K0.used) 1 K1.anchor K1.used), (RgV.an (RgV.an (RgV.dm is' x.next) 0 K0.anchor K0.used) 1 K1.anchor K1.used), (RgV.an (RgV.an (RgV.dm is' x.next) 0 K0.anchor K0.used) 1 K1.anchor K1.used)⟩ = if H0.2 = 0 then (⟨⟨H0.1, E1.1.ts⟩, K0, K1, TreP.clr T0, T1, (RgV.an (RgV.an (RgV.dm is' x.next) 0 K0.anchor K0.used) 1 K1.anchor K1.used), (RgV.an (RgV.an (RgV.dm is' x.next) 0 K0.anchor K0.used) 1 K1.anchor K1.used), (RgV.an (RgV.an (RgV.dm is' x.next) 0 K0.anchor K0.used) 1 K1.anchor K1.used)⟩, 0) else (⟨⟨H0.1, E1.1.ts⟩, K0, K1, T0, T1, (RgV.an (RgV.an (RgV.dm is' x.next) 0 K0.anchor K0.used) 1 K1.anchor K1.used), (RgV.an (RgV.an (RgV.dm is' x.next) 0 K0.anchor K0.used) 1 K1.anchor K1.used), (RgV.an (RgV.an (RgV.dm is' x.next) 0 K0.anchor K0.used) 1 K1.anchor K1.used)⟩, H0.2) := by rw [eH0]; rfl
   have f6 : hm1 ⟨⟨H0.1, E1.1.ts⟩, K0, K1, TreP.clr T0, T1, (RgV.an (RgV.an (RgV.dm is' x.next) 0 K0.anchor K0.used) 1 K1.anchor K1.used), (RgV.an (RgV.an (RgV.dm is' x.next) 0 K0.anchor K0.used) 1 K1.anchor K1.used), (RgV.an (RgV.an (RgV.dm is' x.next) 0 K0.anchor K0.used) 1 K1.anchor K1.used)⟩ = if H1.2 = 0 then (⟨⟨H1.1, E1.1.ts⟩, K0, K1, TreP.clr T0, TreP.clr T1, (RgV.an (RgV.an (RgV.dm is' x.next) 0 K0.anchor K0.used) 1 K1.anchor K1.used), (RgV.an (RgV.an (RgV.dm is' x.next) 0 K0.anchor K0.used) 1 K1.anchor K1.used), (RgV.an (RgV.an (RgV.dm is' x.next) 0 K0.anchor K0.used) 1 K1.anchor K1.used)⟩, 0) else (⟨⟨H1.1, E1.1.ts⟩, K0, K1, TreP.clr T0, T1, (RgV.an (RgV.an (RgV.dm is' x.next) 0 K0.anchor K0.used) 1 K1.anchor K1.used), (RgV.an (RgV.an (RgV.dm is' x.next) 0 K0.anchor K0.used) 1 K1.anchor K1.used), (RgV.an (RgV.an (RgV.dm is' x.next) 0 K0.anchor K0.used) 1 K1.anchor K1.used)⟩, H1.2) := by rw [eH1]; rfl
   repeat' ((conv => whnf); first
    | refine draw_any 6 [(0, true), (1, true), (2, true), (3, true), (4, true), (5, true), (7, true), (8, true), (9, true), (10, true), (11, true), (12, true), (6, true), (13, false), (14, false), (15, false), (16, false), (17, true)] [⟨sn, _⟩] rfl (by kernel_rfl) (kept_of (.cons takeC .nil) ?_) | refine draw_any 10 [(0, true), (1, true), (2, true), (3, true), (5, true), (6, true), (7, true), (8, true), (4, true), (10, true), (9, true), (11, false), (12, true), (13, false)] [⟨sn, _⟩] rfl (by kernel_rfl) (kept_of (.cons takeC .nil) ?_) | refine draw_any 14 [(0, true), (1, true), (2, true), (3, true), (4, true), (5, true), (7, true), (8, true), (9, true), (10, true), (11, true), (12, true), (6, true), (14, true), (13, false), (15, true)] [⟨sn, _⟩] rfl (by kernel_rfl) (kept_of (.cons takeC .nil) ?_) | refine draw_any 16 [(0, true), (1, true), (2, true), (4, true), (6, true), (9, true), (3, false), (7, true), (5, false), (8, false), (10, true), (11, false)] [] rfl (by kernel_rfl) (kept_nil ?_) | refine kept_of (.cons takeC .nil) ?_ | refine kept_nil ?_ | refine loop_n 3 ?_ | refine nv_eq (a := 0) rfl ?_ | refine nv_eq (a := 1) rfl ?_ | refine nv_eq (a := 6) rfl ?_ | refine nv_eq (a := 8) rfl ?_ | refine nv_eq (a := 32) rfl ?_ | refine nv_eq (a := 69) rfl ?_ | refine nv_eq (a := 68) rfl ?_ | refine ld1_row (n := ln) (v := .int .i64 0) rfl ?_ | refine fld1_row (n := sn) (v := pt p0) (by rw [stC_6]; rfl) ?_ | refine ld1_row (n := sn) (v := pt tn0) (by rw [stC_7]; show some (Value.pointer x.t0) = _; rw [ht0]) ?_ | refine call_gr hsh0 (.one takeG) ?_ | refine call_gr hsn0 (.one takeG) ?_ | refine call_gr hroom0 (.blk takeC .nil) ?_ | refine ld1_row (n := ln) (v := .int .i64 1) rfl ?_ | refine fld1_row (n := sn) (v := pt p1) (by rw [stC_8]; rfl) ?_ | refine ld1_row (n := sn) (v := pt tn1) (by rw [stC_9]; show some (Value.pointer x.t1) = _; rw [ht1]) ?_ | refine call_gr hsh1 (.one takeG) ?_ | refine call_gr hsn1 (.one takeG) ?_ | refine call_gr hroom1 (.blk takeC .nil) ?_ | refine call_gr hrt0 (.one takeG) ?_ | refine call_gr hseq0 (.blk takeC .nil) ?_ | (refine wr (fun z hz => ?_); rw [hwrap0] at hz; subst hz) | (refine call_g hputs0 (.one takeG) (fun e A' hq => ?_); obtain ⟨g0, cap0, jkp0, z1, z2⟩ := hq; subst z1; subst z2) | (refine bld_cons (vs := [_]) rfl rfl rfl (Nat.le_of_ble_eq_true rfl) rfl ?_; refine bld_cons (vs := dgV T0.root) (cs1 := rcC (J0.seq + 1) T0.root) rfl rfl (dgV_len _) (Nat.le_of_ble_eq_true rfl) (rzs_e _ _) ?_; refine bld_cons (vs := [_]) (cs1 := rcP (J0.seq + 1) T0.root (.slice (some ⟨g0, 0, none⟩) T0.sheet.length cap0)) rfl rfl rfl (by rw [rcC_len]; exact Nat.le_refl 34) (rcC_P _ _ _) ?_; refine bld_nil ?_) | refine call_gr hanc0 (.blk takeC .nil) ?_ | refine call_gr husd0 (.blk takeC .nil) ?_ | refine st_ra0 ?_ | refine st_r68 ?_ | refine call_go (hap0 g0 cap0 jkp0 o' ho' hts') (.grp takeG (.grp takeG (.blk takeC (.blk takeC .nil)))) (fun o0 a0 b0 => ?_) | (refine call_g (must_any E0.2) .nil (fun e A' hq => ?_); obtain ⟨z0, ⟨c0, z2⟩ | ⟨c0, z2⟩⟩ := hq <;> subst z2 <;> subst z0 <;> first | rw [hK00 c0] | rw [hK01 c0]) | (refine call_g hhm0 (.grp takeG (.blk takeC (.one takeG))) (fun e A' hq => ?_); obtain ⟨v0, m0, z2, z3⟩ | ⟨v0, z2, z3⟩ := hq <;> subst z2 <;> subst z3) | refine call_gr hrt1 (.one takeG) ?_ | refine call_gr hseq1 (.blk takeC .nil) ?_ | (refine wr (fun z hz => ?_); rw [hwrap1] at hz; subst hz) | (refine call_g hputs1 (.one takeG) (fun e A' hq => ?_); obtain ⟨g1, cap1, jkp1, z1, z2⟩ := hq; subst z1; subst z2) | (refine bld_cons (vs := [_]) rfl rfl rfl (Nat.le_of_ble_eq_true rfl) rfl ?_; refine bld_cons (vs := dgV T1.root) (cs1 := rcC (J1.seq + 1) T1.root) rfl rfl (dgV_len _) (Nat.le_of_ble_eq_true rfl) (rzs_e _ _) ?_; refine bld_cons (vs := [_]) (cs1 := rcP (J1.seq + 1) T1.root (.slice (some ⟨g1, 0, none⟩) T1.sheet.length cap1)) rfl rfl rfl (by rw [rcC_len]; exact Nat.le_refl 34) (rcC_P _ _ _) ?_; refine bld_nil ?_) | refine call_gr hanc1 (.blk takeC .nil) ?_ | refine call_gr husd1 (.blk takeC .nil) ?_ | refine st_ra1 ?_ | refine st_r69 ?_ | refine call_go (hap1 g1 cap1 jkp1 o0 (a0.trans ho') b0) (.grp takeG (.grp takeG (.blk takeC (.blk takeC .nil)))) (fun o1 a1 b1 => ?_) | (refine call_g (must_any E1.2) .nil (fun e A' hq => ?_); obtain ⟨z0, ⟨c1, z2⟩ | ⟨c1, z2⟩⟩ := hq <;> subst z2 <;> subst z0 <;> first | rw [hK10 c1] | rw [hK11 c1]) | (refine call_g hhm1 (.grp takeG (.blk takeC (.one takeG))) (fun e A' hq => ?_); obtain ⟨v1, m1, z2, z3⟩ | ⟨v1, z2, z3⟩ := hq <;> subst z2 <;> subst z3) | refine ldN_row (n := sn) _ stC_is (regC_len _) ?_ | refine ldN_whole (n := xn) (regC_len _) ?_ | (refine need ?_ ?_; exact regC_len _) | (refine need ?_ ?_; exact dgV_len _) | refine st_rgl rfl ?_ | refine fld1_row (n := sn) stC_nd ?_ | refine fld1_row (n := sn) stC_nm ?_ | refine st_r70 ?_ | refine st_r71 ?_ | refine force_of ?_ | (refine call_g (hfl _ _ _) (.grp takeG (.blk takeC (.blk takeC .nil))) (fun e A' hq => ?_); obtain ⟨⟨t1, t2⟩ | ⟨t1, t2⟩, t3⟩ := hq <;> subst t2 <;> subst t3) | (refine call_g hst (.grp takeG (.blk takeC .nil)) (fun e A' hq => ?_); obtain ⟨u1, u2, u3⟩ | ⟨u1, u2, u3⟩ := hq <;> subst u2 <;> subst u3) | refine st_nx ?_ | refine need (by first | rfl | omega) ?_ | (refine wr (fun z hz => ?_); (try rw [Int.tdiv_eq_ediv_of_nonneg (by omega)] at hz); rw [w64 (by omega) (by omega)] at hz; subst hz) | (refine ifs (fun h => ?_) (fun h => ?_) <;> try (exfalso; first | omega | with_reducible first | contradiction | exact h rfl)))
   all_goals (conv => whnf)
   · have hQ : com01 ⟨s', J0, J1, T0, T1, is', x.next, y0⟩ = (⟨⟨H1.1, E1.1.ts⟩, K0, K1, TreP.clr T0, TreP.clr T1, (RgV.an (RgV.an (RgV.dm is' x.next) 0 K0.anchor K0.used) 1 K1.anchor K1.used), (RgV.an (RgV.an (RgV.dm is' x.next) 0 K0.anchor K0.used) 1 K1.anchor K1.used), (RgV.an (RgV.an (RgV.dm is' x.next) 0 K0.anchor K0.used) 1 K1.anchor K1.used)⟩, 0) := by unfold com01; rw [f1, if_pos c0, bd_pok rfl, f2, if_pos c1, bd_pok rfl, f3, bd_pok t1, f4, if_pos u1, bd_pok rfl, f5, if_pos v0, bd_pok rfl, f6, if_pos v1]
     rw [← hcom, hroomed, hQ]
     exact fin_g (A := rgM _ ++ (orcM o1 ++ (stB sn _ :: (jB p0 a.rn o.on K0 :: (jB p1 a.rn o.on K1 :: (treM tn0 ⟨TreA.wm A0 m0, TreP.clr T0⟩ ++ treM tn1 ⟨TreA.wm A1 m1, TreP.clr T1⟩)))))) (.grp takeG (.grp takeG (.blk takeC (.blk takeC (.blk takeC (.grp takeG (.one takeG))))))) ⟨o1, TreA.wm A0 m0, TreA.wm A1 m1, p0, p1, a1.trans (a0.trans ho'), b1, rfl, rfl, rfl, rfl, .inl ⟨rfl, rfl⟩, rfl⟩
   · have hQ : com01 ⟨s', J0, J1, T0, T1, is', x.next, y0⟩ = (⟨⟨H1.1, E1.1.ts⟩, K0, K1, TreP.clr T0, T1, (RgV.an (RgV.an (RgV.dm is' x.next) 0 K0.anchor K0.used) 1 K1.anchor K1.used), (RgV.an (RgV.an (RgV.dm is' x.next) 0 K0.anchor K0.used) 1 K1.anchor K1.used), (RgV.an (RgV.an (RgV.dm is' x.next) 0 K0.anchor K0.used) 1 K1.anchor K1.used)⟩, H1.2) := by unfold com01; rw [f1, if_pos c0, bd_pok rfl, f2, if_pos c1, bd_pok rfl, f3, bd_pok t1, f4, if_pos u1, bd_pok rfl, f5, if_pos v0, bd_pok rfl, f6, if_neg v1]
     rw [← hcom, hroomed, hQ]
     exact fin_g (A := rgM _ ++ (orcM o1 ++ (stB sn _ :: (jB p0 a.rn o.on K0 :: (jB p1 a.rn o.on K1 :: (treM tn0 ⟨TreA.wm A0 m0, TreP.clr T0⟩ ++ treM tn1 ⟨A1, T1⟩)))))) (.grp takeG (.grp takeG (.blk takeC (.blk takeC (.blk takeC (.grp takeG (.one takeG))))))) ⟨o1, TreA.wm A0 m0, A1, p0, p1, a1.trans (a0.trans ho'), b1, rfl, rfl, rfl, rfl, .inr ⟨v1, rfl⟩, rfl⟩
   · have hQ : com01 ⟨s', J0, J1, T0, T1, is', x.next, y0⟩ = (⟨⟨H0.1, E1.1.ts⟩, K0, K1, T0, T1, (RgV.an (RgV.an (RgV.dm is' x.next) 0 K0.anchor K0.used) 1 K1.anchor K1.used), (RgV.an (RgV.an (RgV.dm is' x.next) 0 K0.anchor K0.used) 1 K1.anchor K1.used), (RgV.an (RgV.an (RgV.dm is' x.next) 0 K0.anchor K0.used) 1 K1.anchor K1.used)⟩, H0.2) := by unfold com01; rw [f1, if_pos c0, bd_pok rfl, f2, if_pos c1, bd_pok rfl, f3, bd_pok t1, f4, if_pos u1, bd_pok rfl, f5, if_neg v0, bd_pno v0]
     rw [← hcom, hroomed, hQ]
     exact fin_g (A := rgM _ ++ (orcM o1 ++ (stB sn _ :: (jB p0 a.rn o.on K0 :: (jB p1 a.rn o.on K1 :: (treM tn0 ⟨A0, T0⟩ ++ treM tn1 ⟨A1, T1⟩)))))) (.grp takeG (.grp takeG (.blk takeC (.blk takeC (.blk takeC (.grp takeG (.one takeG))))))) ⟨o1, A0, A1, p0, p1, a1.trans (a0.trans ho'), b1, rfl, rfl, rfl, rfl, .inr ⟨v0, rfl⟩, rfl⟩
   · have hQ : com01 ⟨s', J0, J1, T0, T1, is', x.next, y0⟩ = (⟨⟨S.1, E1.1.ts⟩, K0, K1, T0, T1, is', x.next, (RgV.an (RgV.an (RgV.dm is' x.next) 0 K0.anchor K0.used) 1 K1.anchor K1.used)⟩, S.2) := by unfold com01; rw [f1, if_pos c0, bd_pok rfl, f2, if_pos c1, bd_pok rfl, f3, bd_pok t1, f4, if_neg u1, bd_pno u1]
     rw [← hcom, hroomed, hQ]
     exact fin_g (A := rgM _ ++ (orcM o1 ++ (stB sn _ :: (jB p0 a.rn o.on K0 :: (jB p1 a.rn o.on K1 :: (treM tn0 ⟨A0, T0⟩ ++ treM tn1 ⟨A1, T1⟩)))))) (.grp takeG (.grp takeG (.blk takeC (.blk takeC (.blk takeC (.grp takeG (.one takeG))))))) ⟨o1, A0, A1, p0, p1, a1.trans (a0.trans ho'), b1, rfl, rfl, rfl, rfl, .inr ⟨u1, rfl⟩, rfl⟩
   · have hQ : com01 ⟨s', J0, J1, T0, T1, is', x.next, y0⟩ = (⟨⟨G.1, E1.1.ts⟩, K0, K1, T0, T1, is', x.next, (RgV.an (RgV.an (RgV.dm is' x.next) 0 K0.anchor K0.used) 1 K1.anchor K1.used)⟩, G.2) := by unfold com01; rw [f1, if_pos c0, bd_pok rfl, f2, if_pos c1, bd_pok rfl, f3, bd_pno t1]
     rw [← hcom, hroomed, hQ]
     exact fin_g (A := rgM _ ++ (orcM o1 ++ (stB sn _ :: (jB p0 a.rn o.on K0 :: (jB p1 a.rn o.on K1 :: (treM tn0 ⟨A0, T0⟩ ++ treM tn1 ⟨A1, T1⟩)))))) (.grp takeG (.grp takeG (.blk takeC (.blk takeC (.blk takeC (.grp takeG (.one takeG))))))) ⟨o1, A0, A1, p0, p1, a1.trans (a0.trans ho'), b1, rfl, rfl, rfl, rfl, .inr ⟨t1, rfl⟩, rfl⟩
   · have hQ : com01 ⟨s', J0, J1, T0, T1, is', x.next, y0⟩ = (⟨E1.1, K0, J1, T0, T1, is', x.next, (RgV.an (RgV.dm is' x.next) 0 K0.anchor K0.used)⟩, E1.2) := by unfold com01; rw [f1, if_pos c0, bd_pok rfl, f2, if_neg c1, bd_pno c1]
     rw [← hcom, hroomed, hQ]
     exact fin_g (A := rgM _ ++ (orcM o1 ++ (stB sn _ :: (jB p0 a.rn o.on K0 :: (jB p1 a.rn o.on J1 :: (treM tn0 ⟨A0, T0⟩ ++ treM tn1 ⟨A1, T1⟩)))))) (.grp takeG (.grp takeG (.blk takeC (.blk takeC (.blk takeC (.grp takeG (.one takeG))))))) ⟨o1, A0, A1, p0, p1, a1.trans (a0.trans ho'), b1, rfl, rfl, rfl, rfl, .inr ⟨c1, rfl⟩, rfl⟩
   · have hQ : com01 ⟨s', J0, J1, T0, T1, is', x.next, y0⟩ = (⟨E0.1, J0, J1, T0, T1, is', x.next, (RgV.dm is' x.next)⟩, E0.2) := by unfold com01; rw [f1, if_neg c0, bd_pno c0]
     rw [← hcom, hroomed, hQ]
     exact fin_g (A := rgM _ ++ (orcM o0 ++ (stB sn _ :: (jB p0 a.rn o.on J0 :: (jB p1 a.rn o.on J1 :: (treM tn0 ⟨A0, T0⟩ ++ treM tn1 ⟨A1, T1⟩)))))) (.grp takeG (.grp takeG (.blk takeC (.blk takeC (.blk takeC (.grp takeG (.one takeG))))))) ⟨o0, A0, A1, p0, p1, a0.trans ho', b0, rfl, rfl, rfl, rfl, .inr ⟨c0, rfl⟩, rfl⟩
 · have hm1 : m = 1 := by
    rcases Nat.eq_zero_or_pos m with h0 | h0
    · exact absurd (hr h0) hrm
    · omega
   subst hm1
   have hdv := devices_ sn (StP.wjj x p0 p1 is') hat'
   have hok := areas2_ok (super := x.super) (q := ⟨s', J0, J1, is'⟩)
   have hcomF : comT01 x.super ⟨s', J0, J1, T0, T1, is', x.next, y0⟩ = bd (τ := Cx) (enA2 x.super ⟨s', J0, J1, T0, T1, is', x.next, y0⟩) com01 := by unfold comT01; rw [if_neg hrm]
   obtain ⟨q, eq⟩ : ∃ q, q = areas2G x.super ⟨s', J0, J1, is'⟩ := ⟨_, rfl⟩
   have hen : enA2 x.super ⟨s', J0, J1, T0, T1, is', x.next, y0⟩ = if q.2 = 0 then (⟨q.1.s, q.1.j0, q.1.j1, T0, T1, q.1.y, x.next, y0⟩, 0) else (⟨q.1.s, q.1.j0, q.1.j1, T0, T1, is', x.next, y0⟩, q.2) := by rw [eq]; rfl
   rw [← eq] at hok
   have hA : ∀ l2, Fnc Tryz.prog 121 [pt sn, .agg (regC is').toArray, .slice (some ⟨l2, 0, none⟩) 2 2] (⟨l2, .cells [.int .i64 0, .int .i64 1] 3⟩ :: (rgM ⟨a, s'.r⟩ ++ (orcM o' ++ [stB sn (StP.wjj x p0 p1 is'), jB p0 a.rn o.on J0, jB p1 a.rn o.on J1])))
    (fun e M => ∃ (o2 : Orc) (r0 r1 : Nat), o2.on = o.on ∧ o2.ts = q.1.s.ts ∧ ((q.2 = 0 ∧ e = .returned (.tuple #[]) ∧ M = rgM ⟨a, q.1.s.r⟩ ++ (orcM o2 ++ [stB sn (StP.wjj x r0 r1 q.1.y), jB r0 a.rn o.on q.1.j0, jB r1 a.rn o.on q.1.j1])) ∨ (q.2 ≠ 0 ∧ e = .panicked (pe q.2) ∧ M = rgM ⟨a, q.1.s.r⟩ ++ (orcM o2 ++ [stB sn (StP.wjj x r0 r1 is'), jB r0 a.rn o.on q.1.j0, jB r1 a.rn o.on q.1.j1])))) := fun l2 => by
    have h := areas2 a ⟨s', J0, J1, is'⟩ o' sn l2 2 p0 p1 (StP.wjj x p0 p1 is') hrn (hon.trans ho'.symm) hts' rfl rfl hs64 hA0'.area hA0'.sq hA1'.area hA1'.sq (by show s'.ts.length ≤ _; omega)
    rw [show (StP.wjj x p0 p1 is').super = x.super from rfl, ← eq, ho'] at h
    refine Fnc_row (Fnc_perm (Fnc_mono h ?_) ((TakesG.perm (M := rgM ⟨a, s'.r⟩ ++ (orcM o' ++ [stB sn (StP.wjj x p0 p1 is'), jB p0 a.rn o.on J0, jB p1 a.rn o.on J1, lB l2 [0, 1]])) (A := lB l2 [0, 1] :: (rgM ⟨a, s'.r⟩ ++ (orcM o' ++ [stB sn (StP.wjj x p0 p1 is'), jB p0 a.rn o.on J0, jB p1 a.rn o.on J1]))) (R := []) (.blk takeC (.grp takeG (.grp takeG (.blk takeC (.blk takeC (.blk takeC .nil))))))).trans (by rw [List.append_nil]; exact List.Perm.refl _)))
    rintro e M ⟨o2, r0, r1, g1, g2, ⟨g3, g4⟩ | ⟨g3, g4⟩, g5⟩
    · rw [if_pos g3] at g5; exact ⟨o2, r0, r1, g1, g2, .inl ⟨g3, g4, g5⟩⟩
    · rw [if_neg g3] at g5; exact ⟨o2, r0, r1, g1, g2, .inr ⟨g3, g4, g5⟩⟩
   have hfin : q.2 = 0 → JAr q.1.j0 ∧ JAr q.1.j1 ∧ (JOk q.1.j0 T0 ∧ JOk q.1.j1 T1) ∧ (roomJ q.1.j0 T0.sheet.length = true ∧ roomJ q.1.j1 T1.sheet.length = true) ∧ q.1.y.at_ = true ∧ q.1.s.ts.length ≤ 1099511500000 + 5 * (1 - 0) ∧ comT01 x.super ⟨q.1.s, q.1.j0, q.1.j1, T0, T1, q.1.y, x.next, y0⟩ = Q := fun g3 => by
    obtain ⟨k0, k1, k2, k3⟩ := hok g3
    have hf0 := begJ_f x.super 0 (1 - J0.area) J0.seq J0.root
    have hf1 := begJ_f x.super 1 (1 - J1.area) J1.seq J1.root
    have hrq : roomJ q.1.j0 T0.sheet.length = true ∧ roomJ q.1.j1 T1.sheet.length = true := ⟨by rw [k0]; exact room_beg _ _ _ _ _ h10 (by omega), by rw [k1]; exact room_beg _ _ _ _ _ h11 (by omega)⟩
    refine ⟨⟨by rw [k0, hf0.2.2.1]; omega, by rw [k0, hf0.1]; exact hA0'.sq⟩, ⟨by rw [k1, hf1.2.2.1]; omega, by rw [k1, hf1.1]; exact hA1'.sq⟩, ⟨⟨by rw [k0, hf0.1]; exact hck0, by rw [k0, hf0.2.1]; omega, by rw [k0, hf0.2.2.1]; omega, by rw [k0, hf0.2.2.2.1]; omega, by rw [k0, hf0.1]; exact hJ0'.sq⟩, ⟨by rw [k1, hf1.1]; exact hck1, by rw [k1, hf1.2.1]; omega, by rw [k1, hf1.2.2.1]; omega, by rw [k1, hf1.2.2.2.1]; omega, by rw [k1, hf1.1]; exact hJ1'.sq⟩⟩, hrq, k2.trans hat', by dsimp only at k3; omega, ?_⟩
    rw [← hcom, hcomF, hen, if_pos g3, bd_pok rfl]; unfold comT01; rw [if_pos hrq]
   by_cases hrm0 : roomJ J0 T0.sheet.length = true
   · rw [hrm0] at hroom0
     rw [show roomJ J1 T1.sheet.length = false by simpa [hrm0] using hrm] at hroom1
     repeat' ((conv => whnf); first
      | refine draw_any 6 [(0, true), (1, true), (2, true), (3, true), (4, true), (5, true), (7, true), (8, true), (9, true), (10, true), (11, true), (12, true), (6, true), (13, false), (14, false), (15, false), (16, false), (17, true)] [⟨sn, _⟩] rfl (by kernel_rfl) (kept_of (.cons takeC .nil) ?_) | refine draw_pan 7 (.take 0 (.take 1 (.take 2 (.take 3 (.take 5 (.two 4 6 (.only 6 (.only 7 .nil)) (.only 4 (.only 7 .nil)))))))) [] rfl (by kernel_rfl) (fun _ _ _ _ h => h) (kept_nil ?_) | refine kept_nil ?_ | refine And.intro ?_ ?_ | refine kept_of (.cons takeC .nil) ?_ | refine loop_n 3 ?_ | refine nv_eq (a := 0) rfl ?_ | refine nv_eq (a := 1) rfl ?_ | refine nv_eq (a := 6) rfl ?_ | refine nv_eq (a := 8) rfl ?_ | refine ld1_row (n := ln) (v := .int .i64 0) rfl ?_ | refine fld1_row (n := sn) (v := pt p0) (by rw [stC_6]; rfl) ?_ | refine ld1_row (n := sn) (v := pt tn0) (by rw [stC_7]; show some (Value.pointer x.t0) = _; rw [ht0]) ?_ | refine call_gr hsh0 (.one takeG) ?_ | refine call_gr hsn0 (.one takeG) ?_ | refine call_gr hroom0 (.blk takeC .nil) ?_ | refine ld1_row (n := ln) (v := .int .i64 1) rfl ?_ | refine fld1_row (n := sn) (v := pt p1) (by rw [stC_8]; rfl) ?_ | refine ld1_row (n := sn) (v := pt tn1) (by rw [stC_9]; show some (Value.pointer x.t1) = _; rw [ht1]) ?_ | refine call_gr hsh1 (.one takeG) ?_ | refine call_gr hsn1 (.one takeG) ?_ | refine call_gr hroom1 (.blk takeC .nil) ?_ | refine ldN_row (n := sn) _ stC_is (regC_len _) ?_ | (refine call_g hdv (.blk takeC .nil) (fun e A' hq => ?_); obtain ⟨l2, z1, z2⟩ := hq; subst z1; subst z2) | (refine call_g (hA l2) (.blk takeC (.grp takeG (.grp takeG (.blk takeC (.blk takeC (.blk takeC .nil)))))) (fun e A' hq => ?_); obtain ⟨o2, r0, r1, g1, g2, ⟨g3, g4, g5⟩ | ⟨g3, g4, g5⟩⟩ := hq <;> subst g4 <;> subst g5) | refine need (by first | rfl | omega) ?_ | (refine wr (fun z hz => ?_); (try rw [Int.tdiv_eq_ediv_of_nonneg (by omega)] at hz); rw [w64 (by omega) (by omega)] at hz; subst hz) | (refine ifs (fun h => ?_) (fun h => ?_) <;> try (exfalso; first | omega | with_reducible first | contradiction | exact h rfl)))
     all_goals (conv => whnf)
     · rfl
     · obtain ⟨k0, k1, k2, k3, k4, k5, k6⟩ := hfin g3
       exact fin_g (A := rgM _ ++ (orcM o2 ++ (stB sn _ :: (jB r0 a.rn o.on q.1.j0 :: (jB r1 a.rn o.on q.1.j1 :: (treM tn0 ⟨A0, T0⟩ ++ (treM tn1 ⟨A1, T1⟩ ++ (lJ ln [0, 1] jk :: [⟨xn, _⟩])))))))) (.grp takeG (.grp takeG (.blk takeC (.blk takeC (.blk takeC (.grp takeG (.grp takeG (.blk takeC (.blk takeC .nil)))))))))
        ⟨0, by omega, q.1.s, q.1.j0, q.1.j1, q.1.y, r0, r1, o2, rfl, g1, g2, k5, by omega, k4, k0, k1, k2, fun _ => k3, k6, rfl⟩
     · rw [← hcom, hcomF, hen, if_neg g3, bd_pno g3]
       exact fin_g (A := rgM _ ++ (orcM o2 ++ (stB sn _ :: (jB r0 a.rn o.on q.1.j0 :: (jB r1 a.rn o.on q.1.j1 :: (treM tn0 ⟨A0, T0⟩ ++ treM tn1 ⟨A1, T1⟩)))))) (.grp takeG (.grp takeG (.blk takeC (.blk takeC (.blk takeC (.grp takeG (.one takeG))))))) ⟨o2, A0, A1, r0, r1, g1, g2, rfl, rfl, rfl, rfl, .inr ⟨g3, rfl⟩, rfl⟩
     · rfl
     · obtain ⟨k0, k1, k2, k3, k4, k5, k6⟩ := hfin g3
       exact fin_g (A := rgM _ ++ (orcM o2 ++ (stB sn _ :: (jB r0 a.rn o.on q.1.j0 :: (jB r1 a.rn o.on q.1.j1 :: (treM tn0 ⟨A0, T0⟩ ++ (treM tn1 ⟨A1, T1⟩ ++ (lJ ln [0, 1] jk :: [⟨xn, _⟩])))))))) (.grp takeG (.grp takeG (.blk takeC (.blk takeC (.blk takeC (.grp takeG (.grp takeG (.blk takeC (.blk takeC .nil)))))))))
        ⟨0, by omega, q.1.s, q.1.j0, q.1.j1, q.1.y, r0, r1, o2, rfl, g1, g2, k5, by omega, k4, k0, k1, k2, fun _ => k3, k6, rfl⟩
     · rw [← hcom, hcomF, hen, if_neg g3, bd_pno g3]
       exact fin_g (A := rgM _ ++ (orcM o2 ++ (stB sn _ :: (jB r0 a.rn o.on q.1.j0 :: (jB r1 a.rn o.on q.1.j1 :: (treM tn0 ⟨A0, T0⟩ ++ treM tn1 ⟨A1, T1⟩)))))) (.grp takeG (.grp takeG (.blk takeC (.blk takeC (.blk takeC (.grp takeG (.one takeG))))))) ⟨o2, A0, A1, r0, r1, g1, g2, rfl, rfl, rfl, rfl, .inr ⟨g3, rfl⟩, rfl⟩
   · rw [show roomJ J0 T0.sheet.length = false by simpa using hrm0] at hroom0
     repeat' ((conv => whnf); first
      | refine draw_any 6 [(0, true), (1, true), (2, true), (3, true), (4, true), (5, true), (7, true), (8, true), (9, true), (10, true), (11, true), (12, true), (6, true), (13, false), (14, false), (15, false), (16, false), (17, true)] [⟨sn, _⟩] rfl (by kernel_rfl) (kept_of (.cons takeC .nil) ?_) | refine draw_pan 7 (.take 0 (.take 1 (.take 2 (.take 3 (.take 5 (.two 4 6 (.only 6 (.only 7 .nil)) (.only 4 (.only 7 .nil)))))))) [] rfl (by kernel_rfl) (fun _ _ _ _ h => h) (kept_nil ?_) | refine kept_nil ?_ | refine And.intro ?_ ?_ | refine kept_of (.cons takeC .nil) ?_ | refine loop_n 3 ?_ | refine nv_eq (a := 0) rfl ?_ | refine nv_eq (a := 6) rfl ?_ | refine ld1_row (n := ln) (v := .int .i64 0) rfl ?_ | refine fld1_row (n := sn) (v := pt p0) (by rw [stC_6]; rfl) ?_ | refine ld1_row (n := sn) (v := pt tn0) (by rw [stC_7]; show some (Value.pointer x.t0) = _; rw [ht0]) ?_ | refine call_gr hsh0 (.one takeG) ?_ | refine call_gr hsn0 (.one takeG) ?_ | refine call_gr hroom0 (.blk takeC .nil) ?_ | refine ldN_row (n := sn) _ stC_is (regC_len _) ?_ | (refine call_g hdv (.blk takeC .nil) (fun e A' hq => ?_); obtain ⟨l2, z1, z2⟩ := hq; subst z1; subst z2) | (refine call_g (hA l2) (.blk takeC (.grp takeG (.grp takeG (.blk takeC (.blk takeC (.blk takeC .nil)))))) (fun e A' hq => ?_); obtain ⟨o2, r0, r1, g1, g2, ⟨g3, g4, g5⟩ | ⟨g3, g4, g5⟩⟩ := hq <;> subst g4 <;> subst g5) | refine need (by first | rfl | omega) ?_ | (refine ifs (fun h => ?_) (fun h => ?_) <;> try (exfalso; first | omega | with_reducible first | contradiction | exact h rfl)))
     all_goals (conv => whnf)
     · rfl
     · obtain ⟨k0, k1, k2, k3, k4, k5, k6⟩ := hfin g3
       exact fin_g (A := rgM _ ++ (orcM o2 ++ (stB sn _ :: (jB r0 a.rn o.on q.1.j0 :: (jB r1 a.rn o.on q.1.j1 :: (treM tn0 ⟨A0, T0⟩ ++ (treM tn1 ⟨A1, T1⟩ ++ (lJ ln [0, 1] jk :: [⟨xn, _⟩])))))))) (.grp takeG (.grp takeG (.blk takeC (.blk takeC (.blk takeC (.grp takeG (.grp takeG (.blk takeC (.blk takeC .nil)))))))))
        ⟨0, by omega, q.1.s, q.1.j0, q.1.j1, q.1.y, r0, r1, o2, rfl, g1, g2, k5, by omega, k4, k0, k1, k2, fun _ => k3, k6, rfl⟩
     · rw [← hcom, hcomF, hen, if_neg g3, bd_pno g3]
       exact fin_g (A := rgM _ ++ (orcM o2 ++ (stB sn _ :: (jB r0 a.rn o.on q.1.j0 :: (jB r1 a.rn o.on q.1.j1 :: (treM tn0 ⟨A0, T0⟩ ++ treM tn1 ⟨A1, T1⟩)))))) (.grp takeG (.grp takeG (.blk takeC (.blk takeC (.blk takeC (.grp takeG (.one takeG))))))) ⟨o2, A0, A1, r0, r1, g1, g2, rfl, rfl, rfl, rfl, .inr ⟨g3, rfl⟩, rfl⟩
     · rfl
     · obtain ⟨k0, k1, k2, k3, k4, k5, k6⟩ := hfin g3
       exact fin_g (A := rgM _ ++ (orcM o2 ++ (stB sn _ :: (jB r0 a.rn o.on q.1.j0 :: (jB r1 a.rn o.on q.1.j1 :: (treM tn0 ⟨A0, T0⟩ ++ (treM tn1 ⟨A1, T1⟩ ++ (lJ ln [0, 1] jk :: [⟨xn, _⟩])))))))) (.grp takeG (.grp takeG (.blk takeC (.blk takeC (.blk takeC (.grp takeG (.grp takeG (.blk takeC (.blk takeC .nil)))))))))
        ⟨0, by omega, q.1.s, q.1.j0, q.1.j1, q.1.y, r0, r1, o2, rfl, g1, g2, k5, by omega, k4, k0, k1, k2, fun _ => k3, k6, rfl⟩
     · rw [← hcom, hcomF, hen, if_neg g3, bd_pno g3]
       exact fin_g (A := rgM _ ++ (orcM o2 ++ (stB sn _ :: (jB r0 a.rn o.on q.1.j0 :: (jB r1 a.rn o.on q.1.j1 :: (treM tn0 ⟨A0, T0⟩ ++ treM tn1 ⟨A1, T1⟩)))))) (.grp takeG (.grp takeG (.blk takeC (.blk takeC (.blk takeC (.grp takeG (.one takeG))))))) ⟨o2, A0, A1, r0, r1, g1, g2, rfl, rfl, rfl, rfl, .inr ⟨g3, rfl⟩, rfl⟩
end Stg
namespace Cmt
open Go Ev Sha Aes Orc Node Rec Chn Jrn Cau Sto Srt Stg Wld
open Rig (Fnc_takeR RigP Rg rgM readR writeR flushR setRegR z64 app_of tick comes mayE RigA)
open Tree (TreP TreA Tre treM TI Same getS setS updB ShJ)
structure BeF (super : ByteArray) (d area : Nat) (seq : Int) (root : Dg) (s : Rt) : Prop where
 e : (beginG super d area seq root s).2 = 0
 st : Ste s.r ((beginG super d area seq root s).1.r, 0)
 ts : (beginG super d area seq root s).1.ts.length ≤ s.ts.length + 2
 r : (beginG super d area seq root s).1.r = wrF s.r d (1 + 80 * area) (recB seq root)
theorem begin_fine {super : ByteArray} {d area : Nat} {seq : Int} {root : Dg} {s : Rt} (h : Fine s.r) (hd : d ≤ 1) (ha : area ≤ 1) (hs : seqOk seq) : BeF super d area seq root s := by
 have hw := ste_write (r := s.r) h (d := d) (by omega) (i := 1 + 80 * area) (by omega) (recB_size hs root)
 have hl := beginG_len super d area seq root s
 have e : beginG super d area seq root s = (⟨(writeR s.r d (1 + 80 * area : Nat) (recB seq root)).1, addT (addT s.ts (startS super d area)) (nextSs (D (startS super d area)) [recB seq root])⟩, 0) := by unfold beginG; exact if_pos hw.e
 refine ⟨by rw [e], ⟨rfl, ?_, ?_⟩, hl, ?_⟩
 · rw [e]; exact hw.fine
 · rw [e]; exact hw.nw
 · rw [e]
   show (writeR s.r d (1 + 80 * area : Nat) (recB seq root)).1 = _
   rw [h.write (by omega) (by omega) (recB_size hs root)]
theorem nw_flN {d : Int} (hd : d = 0 ∨ d = 1) (j : Nat) : ∀ (l : List Nat) (r : RigP), (∀ x ∈ l, x ≤ 1) → nw_ (flN r l) d j = nw_ r d j
 | [], _, _ => rfl
 | x :: t, r, h => (nw_flN hd j t (flF r x) fun y hy => h y (List.mem_cons_of_mem _ hy)).trans (nw_fl r x d j (by have := h x List.mem_cons_self; omega) hd)
theorem sf_01 {d : Int} (hd : d = 0 ∨ d = 1) (j : Nat) (r : RigP) : sf_ (flN r [0, 1]) d j = nw_ r d j := by
 show sf_ (flF (flF r (0 : Int)) (1 : Int)) d j = _
 rw [sf_fl _ _ _ _ (.inr rfl) hd, sf_fl _ _ _ _ (.inl rfl) hd, nw_fl _ _ _ _ (.inl rfl) hd]
 rcases hd with rfl | rfl
 · rw [if_neg (by decide), if_pos rfl]
 · rw [if_pos rfl]
theorem dk_en {super : ByteArray} {r : RigP} {C0 C1 : Nat → ByteArray} (sp : SP r super) (n0 : ∀ j, 161 ≤ j → j < 288 → nw_ r 0 j = C0 j) (n1 : ∀ j, 161 ≤ j → j < 288 → nw_ r 1 j = C1 j) {ar0 ar1 : Nat} (h0 : ar0 ≤ 1) (h1 : ar1 ≤ 1) {q0 q1 : Int} {t0 t1 : Dg} (s0 : seqOk q0) (s1 : seqOk q1) (Y : RgV) :
 DK super (srF (flN (wrF (wrF (flN r [0, 1]) 0 (1 + 80 * ar0) (recB q0 t0)) 1 (1 + 80 * ar1) (recB q1 t1)) [0, 1]) Y.lay) (begJ super 0 ar0 q0 t0) (begJ super 1 ar1 q1 t1) Y C0 C1 := by
 obtain ⟨rC, eC⟩ : ∃ rC, rC = wrF (wrF (flN r [0, 1]) 0 (1 + 80 * ar0) (recB q0 t0)) 1 (1 + 80 * ar1) (recB q1 t1) := ⟨_, rfl⟩
 rw [← eC]
 have w0 : ∀ j, nw_ rC 0 j = if j = 1 + 80 * ar0 then recB q0 t0 else nw_ r 0 j := fun j => by
  rw [eC, nw_wr _ 1 0 _ j _ (.inr rfl) (.inl rfl), if_neg (fun g => absurd g.1 (by decide)), nw_wr _ 0 0 _ j _ (.inl rfl) (.inl rfl), nw_flN (.inl rfl) j [0, 1] r (by decide)]
  by_cases e : j = 1 + 80 * ar0
  · rw [if_pos e, if_pos ⟨rfl, e⟩]
  · rw [if_neg e, if_neg (fun g => e g.2)]
 have w1 : ∀ j, nw_ rC 1 j = if j = 1 + 80 * ar1 then recB q1 t1 else nw_ r 1 j := fun j => by
  rw [eC, nw_wr _ 1 1 _ j _ (.inr rfl) (.inr rfl), nw_wr _ 0 1 _ j _ (.inl rfl) (.inr rfl), if_neg (c := (1 : Int) = 0 ∧ j = 1 + 80 * ar0) (fun g => absurd g.1 (by decide)), nw_flN (.inr rfl) j [0, 1] r (by decide)]
  by_cases e : j = 1 + 80 * ar1
  · rw [if_pos e, if_pos ⟨rfl, e⟩]
  · rw [if_neg e, if_neg (fun g => e g.2)]
 have f0 : ∀ j, nw_ (srF (flN rC [0, 1]) Y.lay) 0 j = nw_ rC 0 j := fun j => nw_flN (.inl rfl) j [0, 1] rC (by decide)
 have f1 : ∀ j, nw_ (srF (flN rC [0, 1]) Y.lay) 1 j = nw_ rC 1 j := fun j => nw_flN (.inr rfl) j [0, 1] rC (by decide)
 have g0 : ∀ j, sf_ (srF (flN rC [0, 1]) Y.lay) 0 j = nw_ rC 0 j := fun j => sf_01 (.inl rfl) j rC
 have g1 : ∀ j, sf_ (srF (flN rC [0, 1]) Y.lay) 1 j = nw_ rC 1 j := fun j => sf_01 (.inr rfl) j rC
 refine ⟨⟨_, dr_beg (d := 0) s0 ?_ ?_⟩, ⟨_, dr_beg (d := 1) s1 ?_ ?_⟩, ⟨?_, ?_, ?_, ?_⟩, rfl⟩
 · refine ⟨(f0 _).trans ?_, (g0 _).trans ?_⟩ <;> rw [w0, if_pos rfl]
 · intro j k1 k2
   refine ⟨(f0 _).trans ?_, (g0 _).trans ?_⟩ <;> rw [w0, if_neg (by omega)] <;> exact n0 j k1 k2
 · refine ⟨(f1 _).trans ?_, (g1 _).trans ?_⟩ <;> rw [w1, if_pos rfl]
 · intro j k1 k2
   refine ⟨(f1 _).trans ?_, (g1 _).trans ?_⟩ <;> rw [w1, if_neg (by omega)] <;> exact n1 j k1 k2
 · refine (f0 0).trans ?_
   rw [w0, if_neg (by omega)]; exact sp.n
 · refine (g0 0).trans ?_
   rw [w0, if_neg (by omega)]; exact sp.n
 · rw [f1 0, w1, if_neg (by omega)]; exact sp.n1
 · rw [g1 0, w1, if_neg (by omega)]; exact sp.n1
theorem begJ_ji {super : ByteArray} {d area : Nat} {seq : Int} {root : Dg} {N : Int} (ha : area ≤ 1) (hs : 0 ≤ seq ∧ seq ≤ N) : JI (begJ super d area seq root) d super N := by
 have hf := begJ_f super d area seq root
 refine ⟨hf.2.1, by rw [hf.2.2.1]; exact ha, by rw [hf.2.2.2.1]; omega, by rw [hf.1]; exact hs, rfl⟩
theorem set0_ok {y : RgV} (h : y.ok) (a : Dg) {ar : Nat} (ha : ar ≤ 1) : (y.set 0 a ar 1).ok := by
 unfold RgV.ok at h ⊢
 show Reg.RR y.a1 y.ep y.iv (ar : Int) y.ar1 1 y.u1 y.dirty y.mode y.at_
 exact { h with a00 := by omega, a01 := by omega, u00 := by omega, u01 := by omega }
theorem set1_ok {y : RgV} (h : y.ok) (hat : y.at_ = true) (a : Dg) {ar : Nat} (ha : ar ≤ 1) : (y.set 1 a ar 1).ok := by
 unfold RgV.ok at h ⊢
 show Reg.RR a y.ep y.iv y.ar0 (ar : Int) y.u0 1 y.dirty y.mode y.at_
 rw [hat] at h ⊢
 exact { h with a10 := by omega, a11 := by omega, u10 := by omega, u11 := by omega, at2 := (fun hh => nomatch hh), at3 := (fun hh => nomatch hh), at4 := (fun hh => nomatch hh) }
structure EnO (super : ByteArray) (c : Cx) (N : Int) (q : Cx × Int) : Prop where
 e : q.2 = 0
 ci : CI super q.1 N
 next : q.1.next = c.next
 t0 : q.1.t0 = c.t0
 t1 : q.1.t1 = c.t1
 sm : q.1.is.at_ = c.is.at_ ∧ q.1.is.iv = c.is.iv ∧ q.1.is.ep = c.is.ep
 nw : ∀ d, d = 0 ∨ d = 1 → ∀ j, 161 ≤ j → nw_ q.1.s.r d j = nw_ c.s.r d j
 ts : q.1.s.ts.length ≤ c.s.ts.length + 4
 r0 : ∀ n, 1 ≤ n → n ≤ 64 → roomJ q.1.j0 n = true
 r1 : ∀ n, 1 ≤ n → n ≤ 64 → roomJ q.1.j1 n = true
 dk : ∀ C0 C1, SP c.s.r super → (∀ j, 161 ≤ j → j < 288 → nw_ c.s.r 0 j = C0 j) → (∀ j, 161 ≤ j → j < 288 → nw_ c.s.r 1 j = C1 j) → DK super q.1.s.r q.1.j0 q.1.j1 q.1.is C0 C1
 rt0 : q.1.j0.root = c.j0.root
 rt1 : q.1.j1.root = c.j1.root
 dy : q.1.is.dirty = c.is.dirty ∧ q.1.is.mode = c.is.mode
theorem EnO.dj {super : ByteArray} {c : Cx} {N : Int} {q : Cx × Int} (h : EnO super c N q) {C0 C1 : Nat → ByteArray} (hj : DJ super c.s.r c.j0 c.j1 c.is C0 C1) : DJ super q.1.s.r q.1.j0 q.1.j1 q.1.is C0 C1 :=
 ⟨h.dk C0 C1 hj.dk.sp hj.n0 hj.n1, fun j h1 h2 => (h.nw 0 (.inl rfl) j h1).trans (hj.n0 j h1 h2), fun j h1 h2 => (h.nw 1 (.inr rfl) j h1).trans (hj.n1 j h1 h2)⟩
attribute [local irreducible] setG roomJ beginG begJ
theorem en_ok {super : ByteArray} {c : Cx} {N : Int} (h : CI super c N) (hN : N + 1 ≤ 4294967295) : EnO super c N (enA2 super c) := by
 obtain ⟨s, I0, I1, T0, T1, is, next, yy⟩ := c
 obtain ⟨hf, hat, hiok, hok, hj0, hj1, hrj, hs0, hs1, hl0, hl1⟩ := h
 dsimp only at *
 have q0 := hj0.sq
 have q1 := hj1.sq
 have a0 := hj0.area
 have a1 := hj1.area
 have b1 := ste_fl (l := [0, 1]) hf (by decide)
 obtain ⟨G, eG⟩ : ∃ G, G = lp (flG [0, 1]) [0, 1].length 0 s.r := ⟨_, rfl⟩
 rw [← eG] at b1
 have c0 := begin_fine (super := super) (d := 0) (area := 1 - I0.area) (seq := I0.seq) (root := I0.root) (s := ⟨G.1, s.ts⟩) b1.fine (by omega) (by omega) (by unfold seqOk; omega)
 obtain ⟨S0, eS0⟩ : ∃ S, S = (beginG super 0 (1 - I0.area) I0.seq I0.root ⟨G.1, s.ts⟩).1 := ⟨_, rfl⟩
 obtain ⟨K0, eK0⟩ : ∃ K, K = begJ super 0 (1 - I0.area) I0.seq I0.root := ⟨_, rfl⟩
 have x0 := c0.e
 have y0 := c0.st
 have z0 := c0.ts
 have r0 := c0.r
 rw [← eS0] at y0 z0 r0
 have c1 := begin_fine (super := super) (d := 1) (area := 1 - I1.area) (seq := I1.seq) (root := I1.root) (s := S0) y0.fine (by omega) (by omega) (by unfold seqOk; omega)
 obtain ⟨S1, eS1⟩ : ∃ S, S = (beginG super 1 (1 - I1.area) I1.seq I1.root S0).1 := ⟨_, rfl⟩
 obtain ⟨K1, eK1⟩ : ∃ K, K = begJ super 1 (1 - I1.area) I1.seq I1.root := ⟨_, rfl⟩
 have x1 := c1.e
 have y1 := c1.st
 have z1 := c1.ts
 have r1 := c1.r
 rw [← eS1] at y1 z1 r1
 have b2 := ste_fl (l := [0, 1]) y1.fine (by decide)
 obtain ⟨H, eH⟩ : ∃ H, H = lp (flG [0, 1]) [0, 1].length 0 S1.r := ⟨_, rfl⟩
 rw [← eH] at b2
 have o1 : ((is.set 0 K0.anchor (1 - I0.area : Nat) 1).set 1 K1.anchor (1 - I1.area : Nat) 1).ok := set1_ok (set0_ok hiok _ (by omega)) hat _ (by omega)
 have b3 := ste_set b2.fine o1
 obtain ⟨E, eE⟩ : ∃ E, E = setG H.1 ((is.set 0 K0.anchor (1 - I0.area : Nat) 1).set 1 K1.anchor (1 - I1.area : Nat) 1) := ⟨_, rfl⟩
 rw [← eE] at b3
 have rG : G.1 = flN s.r [0, 1] := by rw [eG, flG_N hf (by decide)]
 have rH : H.1 = flN S1.r [0, 1] := by rw [eH, flG_N y1.fine (by decide)]
 have rE : E.1 = srF H.1 (RgV.lay ((is.set 0 K0.anchor (1 - I0.area : Nat) 1).set 1 K1.anchor (1 - I1.area : Nat) 1)) := by rw [eE, setG_F b2.fine o1]
 have f1 : flA [0, 1] ⟨s, I0, I1, is⟩ = (⟨⟨G.1, s.ts⟩, I0, I1, is⟩, 0) := by
  unfold flA; rw [← eG, b1.e]
 have f2 : ar0 super ⟨⟨G.1, s.ts⟩, I0, I1, is⟩ = (⟨S0, K0, I1, is.set 0 K0.anchor (1 - I0.area : Nat) 1⟩, 0) := by
  rw [eS0, eK0]; unfold ar0; exact if_pos x0
 have f3 : ar1 super ⟨S0, K0, I1, is.set 0 K0.anchor (1 - I0.area : Nat) 1⟩ = (⟨S1, K0, K1, (is.set 0 K0.anchor (1 - I0.area : Nat) 1).set 1 K1.anchor (1 - I1.area : Nat) 1⟩, 0) := by
  rw [eS1, eK1]; unfold ar1; exact if_pos x1
 have f4 : ∀ y, flA [0, 1] ⟨S1, K0, K1, y⟩ = (⟨⟨H.1, S1.ts⟩, K0, K1, y⟩, 0) := fun y => by
  unfold flA; rw [← eH, b2.e]
 have f5 : stA ⟨⟨H.1, S1.ts⟩, K0, K1, (is.set 0 K0.anchor (1 - I0.area : Nat) 1).set 1 K1.anchor (1 - I1.area : Nat) 1⟩ = (⟨⟨E.1, S1.ts⟩, K0, K1, (is.set 0 K0.anchor (1 - I0.area : Nat) 1).set 1 K1.anchor (1 - I1.area : Nat) 1⟩, 0) := by
  unfold stA; rw [← eE, b3.e]
 have fa : areas2G super ⟨s, I0, I1, is⟩ = (⟨⟨E.1, S1.ts⟩, K0, K1, (is.set 0 K0.anchor (1 - I0.area : Nat) 1).set 1 K1.anchor (1 - I1.area : Nat) 1⟩, 0) := by
  unfold areas2G; rw [f1, bd_pok rfl, f2, bd_pok rfl, f3, bd_pok rfl, f4, bd_pok rfl, f5]
 have fe : enA2 super ⟨s, I0, I1, T0, T1, is, next, yy⟩ = (⟨⟨E.1, S1.ts⟩, K0, K1, T0, T1, (is.set 0 K0.anchor (1 - I0.area : Nat) 1).set 1 K1.anchor (1 - I1.area : Nat) 1, next, yy⟩, 0) := by
  unfold enA2; dsimp only; rw [fa]; rfl
 rw [fe]
 have k0 : JI K0 0 super N := by rw [eK0]; exact begJ_ji (by omega) q0
 have k1 : JI K1 1 super N := by rw [eK1]; exact begJ_ji (by omega) q1
 have g0 := begJ_f super 0 (1 - I0.area) I0.seq I0.root
 have g1 := begJ_f super 1 (1 - I1.area) I1.seq I1.root
 rw [← eK0] at g0
 rw [← eK1] at g1
 have od : (RgV.dm ((is.set 0 K0.anchor (1 - I0.area : Nat) 1).set 1 K1.anchor (1 - I1.area : Nat) 1) next).ok := set1_ok (y := (RgV.dm is next).set 0 K0.anchor (1 - I0.area : Nat) 1) (set0_ok hok _ (by omega)) hat _ (by omega)
 refine ⟨rfl, ⟨b3.fine, hat, o1, od, k0, k1, ⟨rfl, ?_, ?_, rfl, ?_, ?_⟩, hs0, hs1, hl0, hl1⟩, rfl, rfl, rfl, ⟨rfl, rfl, rfl⟩, fun d hd j hj => ?_, ?_, fun n h1 h2 => ?_, fun n h1 h2 => ?_, fun C0 C1 hsp hn0 hn1 => ?_, by show K0.root = _; rw [eK0]; exact (begJ_f super 0 (1 - I0.area) I0.seq I0.root).2.2.2.2, by show K1.root = _; rw [eK1]; exact (begJ_f super 1 (1 - I1.area) I1.seq I1.root).2.2.2.2, ⟨rfl, rfl⟩⟩
 · show ((1 - I0.area : Nat) : Int) = K0.area; rw [g0.2.2.1]
 · show (1 : Int) = K0.used; rw [g0.2.2.2.1]; rfl
 · show ((1 - I1.area : Nat) : Int) = K1.area; rw [g1.2.2.1]
 · show (1 : Int) = K1.used; rw [g1.2.2.2.1]; rfl
 · show nw_ E.1 d j = _
   rw [b3.nw d hd j hj, b2.nw d hd j hj, y1.nw d hd j hj, y0.nw d hd j hj, b1.nw d hd j hj]
 · show S1.ts.length ≤ s.ts.length + 4
   dsimp only at z0
   omega
 · show roomJ K0 n = true; rw [eK0]; exact room_beg _ _ _ _ _ h1 h2
 · show roomJ K1 n = true; rw [eK1]; exact room_beg _ _ _ _ _ h1 h2
 · show DK super E.1 K0 K1 _ C0 C1
   rw [rE, rH, r1, r0, eK0, eK1]
   dsimp only
   rw [rG]
   exact dk_en hsp hn0 hn1 (by omega) (by omega) (by unfold seqOk; omega) (by unfold seqOk; omega) _
theorem CO.from_en {super : ByteArray} {c : Cx} {N : Int} {c' : Cx} {q : Cx × Int} (h : EnO super c N (c', 0)) (k : CO super c' N q 2) : CO super c N q 6 := by
 have h1 := h.nw 0 (.inl rfl)
 have h2 := h.nw 1 (.inr rfl)
 have h3 := h.ts
 have k3 := k.ts
 dsimp only at h1 h2 h3
 exact ⟨k.e, k.fine, k.nx, k.ok, by rw [← h.next]; exact k.dy, ⟨k.sm.1.trans h.sm.1, k.sm.2.1.trans h.sm.2.1, k.sm.2.2.trans h.sm.2.2⟩, k.j0, k.j1, k.rj, by rw [← h.t0]; exact k.t0, by rw [← h.t1]; exact k.t1, fun j hj => by rw [k.n0 j hj, ← h.t0, h1 j hj], fun j hj => by rw [k.n1 j hj, ← h.t1, h2 j hj], by omega, fun C0 C1 hj => by have := k.dk C0 C1 (h.dj hj); rw [show c'.t0 = c.t0 from h.t0, show c'.t1 = c.t1 from h.t1] at this; exact this, by rw [k.rt0, show c'.t0 = c.t0 from h.t0, show c'.j0.root = c.j0.root from h.rt0], by rw [k.rt1, show c'.t1 = c.t1 from h.t1, show c'.j1.root = c.j1.root from h.rt1]⟩
theorem CO.less {super : ByteArray} {c : Cx} {N : Int} {q : Cx × Int} (k : CO super c N q 2) : CO super c N q 6 := { k with ts := by have := k.ts; omega }
end Cmt
namespace Cmt
open Go Ev Sha Aes Orc Node Rec Chn Jrn Cau Sto Srt Stg Wld
open Rig (Fnc_takeR RigP Rg rgM readR writeR flushR setRegR z64 app_of tick comes mayE RigA)
open Tree (TreP TreA Tre treM TI Same getS setS updB ShJ)
attribute [local irreducible] setG roomJ beginG begJ enA2 com0 com1 com01
theorem JOk.of {J : JrP} {T : TreP} {d : Nat} {super : ByteArray} {N : Int} (h : JI J d super N) (hd : d ≤ 1) (hN : N + 1 ≤ 4294967295) (hs : ShI T.sheet) (hl : T.sheet.length ≤ 64) : JOk J T := by
 have q := h.sq
 have u := h.used
 refine ⟨chkE_of hs hl (by unfold seqOk; omega), ?_, h.area, u.2, q.1⟩
 rw [h.d]; exact hd
theorem comT0_ok {super : ByteArray} {c : Cx} {N : Int} (h : CI super c N) (hN : N + 1 ≤ 4294967295) (h1 : 1 ≤ c.t0.sheet.length) (he : c.t1.sheet = []) : CO super c N (comT0 super c) 6 := by
 unfold comT0
 have hz : c.t0.sheet ≠ [] := fun e => by rw [e] at h1; exact absurd h1 (by decide)
 by_cases hr : roomJ c.j0 c.t0.sheet.length = true
 · rw [if_pos hr]; exact (com0_ok h hN hr hz he).less
 · rw [if_neg hr]
   have e := en_ok h hN
   have ht0 := e.t0
   have ht1 := e.t1
   have hl := h.l0
   obtain ⟨q, eq⟩ : ∃ q, q = enA2 super c := ⟨_, rfl⟩
   rw [← eq] at e ht0 ht1 ⊢
   obtain ⟨c', k⟩ := q
   have ek : k = 0 := e.e
   subst ek
   rw [bd_pok rfl]
   refine CO.from_en e (com0_ok e.ci hN ?_ ?_ ?_)
   · dsimp only at ht0; rw [ht0]; exact e.r0 _ h1 hl
   · dsimp only at ht0; rw [ht0]; exact hz
   · dsimp only at ht1; rw [ht1]; exact he
theorem comT1_ok {super : ByteArray} {c : Cx} {N : Int} (h : CI super c N) (hN : N + 1 ≤ 4294967295) (h1 : 1 ≤ c.t1.sheet.length) (he : c.t0.sheet = []) : CO super c N (comT1 super c) 6 := by
 unfold comT1
 have hz : c.t1.sheet ≠ [] := fun e => by rw [e] at h1; exact absurd h1 (by decide)
 by_cases hr : roomJ c.j1 c.t1.sheet.length = true
 · rw [if_pos hr]; exact (com1_ok h hN hr hz he).less
 · rw [if_neg hr]
   have e := en_ok h hN
   have ht0 := e.t0
   have ht1 := e.t1
   have hl := h.l1
   obtain ⟨q, eq⟩ : ∃ q, q = enA2 super c := ⟨_, rfl⟩
   rw [← eq] at e ht0 ht1 ⊢
   obtain ⟨c', k⟩ := q
   have ek : k = 0 := e.e
   subst ek
   rw [bd_pok rfl]
   refine CO.from_en e (com1_ok e.ci hN ?_ ?_ ?_)
   · dsimp only at ht1; rw [ht1]; exact e.r1 _ h1 hl
   · dsimp only at ht1; rw [ht1]; exact hz
   · dsimp only at ht0; rw [ht0]; exact he
theorem comT01_ok {super : ByteArray} {c : Cx} {N : Int} (h : CI super c N) (hN : N + 1 ≤ 4294967295) (h1 : 1 ≤ c.t0.sheet.length) (h2 : 1 ≤ c.t1.sheet.length) : CO super c N (comT01 super c) 6 := by
 unfold comT01
 have hz0 : c.t0.sheet ≠ [] := fun e => by rw [e] at h1; exact absurd h1 (by decide)
 have hz1 : c.t1.sheet ≠ [] := fun e => by rw [e] at h2; exact absurd h2 (by decide)
 by_cases hr : roomJ c.j0 c.t0.sheet.length = true ∧ roomJ c.j1 c.t1.sheet.length = true
 · rw [if_pos hr]; exact (com01_ok h hN hr.1 hz0 hr.2 hz1).less
 · rw [if_neg hr]
   have e := en_ok h hN
   have ht0 := e.t0
   have ht1 := e.t1
   have hl := h.l0
   have hl1 := h.l1
   obtain ⟨q, eq⟩ : ∃ q, q = enA2 super c := ⟨_, rfl⟩
   rw [← eq] at e ht0 ht1 ⊢
   obtain ⟨c', k⟩ := q
   have ek : k = 0 := e.e
   subst ek
   rw [bd_pok rfl]
   refine CO.from_en e (com01_ok e.ci hN ?_ ?_ ?_ ?_)
   · dsimp only at ht0; rw [ht0]; exact e.r0 _ h1 hl
   · dsimp only at ht0; rw [ht0]; exact hz0
   · dsimp only at ht1; rw [ht1]; exact e.r1 _ h2 hl1
   · dsimp only at ht1; rw [ht1]; exact hz1
end Cmt
namespace Bgn
open Go Ev Sha Aes Orc Node Rec Chn Jrn Cau Sto Ivs Ctr Aut Wld
open Rig (Fnc_takeR RigP Rg rgM z64 app_of RigA)
open Tree (TreP TreA Tre treM TI Same updB)
def rowS (f : Nat → ByteArray) : List Value := (List.range 128).map fun i => .string (f i)
theorem rowS_len (f : Nat → ByteArray) : (rowS f).length = 128 := by unfold rowS; simp
theorem rowS_set (f : Nat → ByteArray) {i : Nat} (hi : i < 128) (s : ByteArray) : (rowS f).set i (.string s) = rowS (updB f i s) := by
 apply List.ext_getElem?
 intro j
 unfold rowS
 rw [List.getElem?_set]
 by_cases hj : j < 128
 · rw [List.getElem?_map, List.getElem?_map, List.getElem?_range hj]
   simp only [Option.map_some, List.length_map, List.length_range]
   unfold updB
   by_cases h : i = j
   · subst h; rw [if_pos rfl, if_pos hi, if_pos rfl]
   · rw [if_neg h, if_neg (fun e => h e.symm)]
 · rw [if_neg (by omega), List.getElem?_eq_none (by simp; omega), List.getElem?_eq_none (by simp; omega)]
theorem rowS_one (f : Nat → ByteArray) : ∀ u ∈ rowS f, u.oneCell' = true := by
 intro u hu; unfold rowS at hu; obtain ⟨j, _, rfl⟩ := List.mem_map.1 hu; rfl
def wdC (rn on : Nat) (vp : Option Addr) (f g : Nat → ByteArray) : List Value := .pointer (some ⟨rn, 0, none⟩) :: .pointer (some ⟨on, 0, none⟩) :: .pointer vp :: (rowS f ++ (rowS g ++ [.slice none 0 0]))
abbrev wdB (n rn on : Nat) (vp : Option Addr) (f g : Nat → ByteArray) : Blk := ⟨n, .row (wdC rn on vp f g) 80⟩
section
variable {rn on : Nat} {vp : Option Addr} {f g : Nat → ByteArray}
theorem wdC_len : (wdC rn on vp f g).length = 260 := by unfold wdC; simp [rowS_len]
theorem wdC_0 : (wdC rn on vp f g)[0]? = some (pt rn) := rfl
theorem wdC_1 : (wdC rn on vp f g)[1]? = some (pt on) := rfl
theorem wdC_2 : (wdC rn on vp f g)[2]? = some (.pointer vp) := rfl
theorem wdC_s2 {v : Option Addr} : (wdC rn on vp f g).set 2 (.pointer v) = wdC rn on v f g := rfl
theorem wdC_sm {i : Nat} (hi : i < 128) (s : ByteArray) : (wdC rn on vp f g).set (3 + i) (.string s) = wdC rn on vp (updB f i s) g := by
 unfold wdC
 rw [show 3 + i = i + 1 + 1 + 1 by omega, List.set_cons_succ, List.set_cons_succ, List.set_cons_succ, List.set_append_left _ _ (by rw [rowS_len]; omega), rowS_set f hi]
theorem wdC_m : ((wdC rn on vp f g).drop 3).take (rowS f).length = rowS f := by
 unfold wdC
 show (rowS f ++ (rowS g ++ [Value.slice none 0 0])).take (rowS f).length = rowS f
 rw [List.take_left']; rfl
theorem wdC_so {h : Nat → ByteArray} : (wdC rn on vp f g).take 131 ++ rowS h ++ (wdC rn on vp f g).drop (131 + (rowS h).length) = wdC rn on vp f h := by
 unfold wdC
 rw [rowS_len]
 show (([Value.pointer (some ⟨rn, 0, none⟩), .pointer (some ⟨on, 0, none⟩), .pointer vp] ++ ((rowS f ++ (rowS g ++ [Value.slice none 0 0])).take 128)) ++ rowS h) ++ ((rowS f ++ (rowS g ++ [Value.slice none 0 0])).drop 256) = _
 rw [List.take_left' (rowS_len f), show 256 = (rowS f).length + 128 by rw [rowS_len], ← List.drop_drop, List.drop_left, List.drop_left' (rowS_len g)]
 simp
end
theorem st_wv {P : Program} {M : List Blk} {n rn on : Nat} {vp : Option Addr} {f g : Nat → ByteArray} {T : TypeId} {F : Blk → List Blk} {k : List Blk → Prop} [z : Zip M n (.row (wdC rn on vp f g) T) F] {v : Option Addr} (hk : k (F ⟨n, .row (wdC rn on v f g) T⟩)) : StN P M n 2 [.pointer v] k := st_row rfl (by rw [wdC_len]; omega) (by rw [wdC_s2]; exact hk)
theorem st_wm {P : Program} {M : List Blk} {n rn on : Nat} {vp : Option Addr} {f g : Nat → ByteArray} {T : TypeId} {F : Blk → List Blk} {k : List Blk → Prop} [z : Zip M n (.row (wdC rn on vp f g) T) F] {i : Nat} {s : ByteArray} (hi : i < 128) (hk : k (F ⟨n, .row (wdC rn on vp (updB f i s) g) T⟩)) : StN P M n (3 + i) [.string s] k := st_row rfl (by rw [wdC_len]; omega) (by rw [wdC_sm hi]; exact hk)
theorem st_wo {P : Program} {M : List Blk} {n rn on : Nat} {vp : Option Addr} {f g : Nat → ByteArray} {T : TypeId} {F : Blk → List Blk} {k : List Blk → Prop} [z : Zip M n (.row (wdC rn on vp f g) T) F] {h : Nat → ByteArray} (hk : k (F ⟨n, .row (wdC rn on vp f h) T⟩)) : StN P M n 131 (rowS h) k := st_rowN (rowS_one h) (by rw [wdC_len, rowS_len]; omega) (by rw [wdC_so]; exact hk)
def emp : Nat → ByteArray := fun _ => ⟨#[]⟩
theorem wd0_e (rn on : Nat) : wdC rn on none emp emp = [.pointer (some ⟨rn, 0, none⟩), .pointer (some ⟨on, 0, none⟩), .pointer none] ++ (List.replicate 256 (Value.string ⟨#[]⟩) ++ [.slice none 0 0]) := rfl
def mmk : Nat → Nat → ByteArray
 | 0 => emp
 | k + 1 => updB (updB (mmk k) k z48) (64 + k) z48
theorem mmk_s (k : Nat) : mmk (k + 1) = updB (updB (mmk k) k z48) (64 + k) z48 := rfl
theorem shape : Fnc Tryz.prog 16 [] [] (Ret (.agg #[.int .i64 64, .int .i64 8, .int .i64 1099511627776]) []) := by
 refine fn_intro Tryz.func16 (by kernel_rfl) ?_
 repeat' ((conv => whnf); first
  | refine ldN_lit ?_ | refine nw (fun n => ?_) | refine bld ?_ | refine st_lit rfl ?_ | refine need (by first | rfl | omega) ?_)
 all_goals (conv => whnf)
 all_goals exact fin_pick (A' := []) .nil ⟨rfl, rfl⟩
theorem z32_ : Fnc Tryz.prog 39 [.int .i64 32] [] (Ret (.string (str (List.replicate 32 0))) []) := Be.zeros 32 (by omega) (by omega)
theorem z48_ : Fnc Tryz.prog 39 [.int .i64 48] [] (Ret (.string z48) []) := Be.zeros 48 (by omega) (by omega)
def keyS : ByteArray := Be.full ⟨#[107, 101, 121]⟩ 32
theorem keyS_size : keyS.size = 32 := by
 unfold keyS Be.full
 rw [if_neg (by decide), ByteArray.size_append, Ev.str_size]
 rfl
theorem key_ : Fnc Tryz.prog 69 [] [] (Ret (.string keyS) []) := by
 have h1 : Fnc Tryz.prog 19 [.string ⟨#[107, 101, 121]⟩, .int .i64 32] [] (Ret (.string keyS) []) := Be.full01 ⟨#[107, 101, 121]⟩ 32 (by decide) (by decide)
 refine fn_intro Tryz.func69 (by kernel_rfl) ?_
 repeat' ((conv => whnf); first
  | refine call_val h1 ?_)
 all_goals (conv => whnf)
 all_goals exact fin_nil ⟨rfl, rfl⟩
end Bgn
end Go.Proofs.YtkjamonkohpcnaaGreat
