/- Texts of this proof, merged. -/
import Derived.Test.YtkjamonkohpcnaaGreatAk25
set_option linter.unusedVariables false
set_option linter.unusedSimpArgs false
set_option linter.unusedSectionVars false
set_option maxRecDepth 100000
set_option maxHeartbeats 16000000
namespace Go.Proofs.YtkjamonkohpcnaaGreat
namespace Stg
open Go Ev Sha Aes Orc Node Rec Chn Jrn Cau Sto Srt Wld Cmt
open Rig (Fnc_takeR RigP Rg rgM readR writeR flushR setRegR z64 app_of tick comes write_ mayE RigA regR)
def rpR (r : RigP) (d : Int) (R : List Rc) : RigP := R.foldl (fun r x => wrK r d x.l) r
theorem rpR_s (r : RigP) (d : Int) (R : List Rc) (x : Rc) : rpR r d (R ++ [x]) = wrK (rpR r d R) d x.l := by unfold rpR; rw [List.foldl_append]; rfl
theorem wrK_s (d : Int) (p : Int × ByteArray) : ∀ (l : List (Int × ByteArray)) (r : RigP), wrK r d (l ++ [p]) = wrF (wrK r d l) d p.1.toNat p.2
 | [], _ => rfl
 | q :: t, r => wrK_s d p t (wrF r d q.1.toNat q.2)
theorem fine_rp {r : RigP} (h : Fine r) (d : Int) : ∀ (R : List Rc), Fine (rpR r d R) := fun R => by
 unfold rpR
 induction R generalizing r with
 | nil => exact h
 | cons x t ih => exact ih (fine_wrK x.l r h)
theorem putsM_append (A B : List RS) : putsM (A ++ B) = putsM A ++ putsM B := by unfold putsM; simp
theorem putsM_cons (y : RS) (B : List RS) : putsM (y :: B) = putM y ++ putsM B := by unfold putsM; simp
theorem putsM_cut {L : List RS} {k : Nat} (hk : k < L.length) : putsM L = putsM (L.take k) ++ (putM L[k] ++ putsM (L.drop (k + 1))) := by
 rw [← putsM_cons, ← putsM_append, ← List.drop_eq_getElem_cons hk, List.take_append_drop]
attribute [local irreducible] dgV D jC wrF rcC stC regC RgV.lay rgM readR rcP convert Builtin.copy_ Builtin.append_ Instr.makeSlice flatV recN recLs rowR putsM blks regR
theorem replay_ (a : RigA) (r : RigP) (sn : Nat) (x : StP) (d : Int) (L : List RS) (O : Own) (hf : Fine r) (hrn : x.rn = a.rn) (hd : d = 0 ∨ d = 1) (hL : ∀ y ∈ L, OkR y ∧ chkE y.1.seq y.1.l = 0) (hO : O.ok 34 L.length (rowR L)) (hln : L.length ≤ 1000) (h1 : 1 ≤ L.length) :
 Fnc Tryz.prog 146 [pt sn, .int .i64 d, O.val L.length] (rgM ⟨a, r⟩ ++ (stB sn x :: (O.blk 191 (rowR L) ++ putsM L)))
  (Ret (.tuple #[]) (rgM ⟨a, rpR r d (L.map (·.1))⟩ ++ (stB sn x :: (O.blk 191 (rowR L) ++ putsM L)))) := by
 cases O with
 | nil => exact absurd hO.2 (by omega)
 | at_ og oc ojk =>
 rw [own_at]
 refine fn_intro Tryz.func146 (by kernel_rfl) ?_
 repeat' ((conv => whnf); first
  | fail)
 all_goals (conv => whnf)
 refine loop_rule [12] (fun vs M m => ∃ k : Nat, vs = [.int .i64 k] ∧ k ≤ L.length ∧ m = L.length - k ∧
  M = rgM ⟨a, rpR r d ((L.take k).map (·.1))⟩ ++ (stB sn x :: ⟨og, .row (rowR L ++ ojk) 191⟩ :: putsM L)) rfl ?_ ?_
 · exact fin_g (A := rgM ⟨a, r⟩ ++ (stB sn x :: ⟨og, _⟩ :: putsM L)) (.grp takeG (.blk takeC (.blk takeC (.one takeE)))) ⟨_, 0, rfl, by omega, rfl, rfl⟩
 rintro vs junk M' m ⟨k, rfl, hk, rfl, rfl⟩
 by_cases hk6 : k < L.length
 · have hat := rowR_at hk6 ojk
   have hcut := putsM_cut hk6
   obtain ⟨hyO, hck⟩ := hL L[k] (List.getElem_mem hk6)
   have hmp : (L.take (k + 1)).map (·.1) = (L.take k).map (·.1) ++ [(L[k]).1] := by rw [List.take_add_one, List.getElem?_eq_getElem hk6, List.map_append]; rfl
   have hf2 := fine_rp hf d ((L.take k).map (·.1))
   have hrp : rpR r d ((L.take (k + 1)).map (·.1)) = wrK (rpR r d ((L.take k).map (·.1))) d (L[k]).1.l := by rw [hmp, rpR_s]
   rw [hcut]
   generalize L[k] = y at *
   generalize rpR r d ((L.take k).map (·.1)) = r1 at *
   obtain ⟨y1, S⟩ := y
   have hR := rcOk hck
   have hcs := chk_ok (chkE_0 hck).2.2 (by omega)
   dsimp only at hrp hck hR hcs
   have h64 := hR.len
   have hfl : (y1, S).1.l.length = y1.l.length := rfl
   unfold putM
   repeat' ((conv => whnf); first
    | refine nv_eq (a := k * 34) (by omega) ?_ | refine ldN_row (n := og) _ hat (rvC_len _) ?_ | refine nw_row (cs' := rcP 0 zD (.slice none 0 0)) rcP_z0 (fun xn => ?_) | refine force_of ?_ | (refine need ?_ ?_; exact rvC_len _) | refine st_whole (n := xn) (rvC_one _) (by rw [rcP_len, rvC_len]) ?_ | refine ld1_row (n := xn) (rv_p _) ?_ | refine need (by first | rfl | omega) ?_ | (refine ifs (fun h => ?_) (fun h => ?_) <;> try (exfalso; first | omega | with_reducible first | contradiction | exact h rfl)))
   all_goals (conv => whnf)
   have hok := hyO.ok
   refine loop_rule [19] (fun vs M m => ∃ j : Nat, vs = [.int .i64 j] ∧ j ≤ y1.l.length ∧ m = y1.l.length - j ∧
    M = rgM ⟨a, wrK r1 d (y1.l.take j)⟩ ++ (stB sn x :: ⟨og, .row (rowR L ++ ojk) 191⟩ :: (putsM (L.take k) ++ (S.blk 117 (flatV y1.l) ++ putsM (L.drop (k + 1)))))) rfl ?_ ?_
   · exact fin_g (A := rgM ⟨a, r1⟩ ++ (stB sn x :: ⟨og, _⟩ :: (putsM (L.take k) ++ (S.blk 117 (flatV y1.l) ++ putsM (L.drop (k + 1)))))) (.grp takeG (.blk takeC (.blk takeC (.grp takeE (.grp takeE (.one takeE)))))) ⟨_, 0, rfl, by omega, rfl, rfl⟩
   rintro vs junk M' m ⟨j, rfl, hj, rfl, rfl⟩
   by_cases hj6 : j < y1.l.length
   · cases S with
     | nil => exact absurd hok.2 (by show y1.l.length ≠ 0; omega)
     | at_ g c jk =>
     rw [own_at]
     have hg := flat_at (junk := jk) hj6
     have hpj := hcs y1.l[j] (List.getElem_mem hj6)
     have hts : y1.l.take (j + 1) = y1.l.take j ++ [y1.l[j]] := by rw [List.take_add_one, List.getElem?_eq_getElem hj6]; rfl
     have hw := writeF ⟨a, wrK r1 d (y1.l.take j)⟩ d (y1.l[j]).1.toNat (y1.l[j]).2 (fine_wrK _ _ hf2) hd (by omega) hpj.2.2
     rw [show (((y1.l[j]).1.toNat : Nat) : Int) = (y1.l[j]).1 by omega] at hw
     have hw : Fnc Tryz.prog 92 [pt x.rn, .int .i64 d, .int .i64 (y1.l[j]).1, .string (y1.l[j]).2] (rgM ⟨a, wrK r1 d (y1.l.take j)⟩) (Ret (.int .i64 0) (rgM ⟨a, wrK r1 d (y1.l.take (j + 1))⟩)) := by rw [hrn, hts, wrK_s]; exact hw
     generalize y1.l[j] = p at *
     repeat' ((conv => whnf); first
      | refine nv_eq (a := j * 2) (by omega) ?_ | refine ldN_row (n := g) _ hg rfl ?_ | refine nw (fun pn => ?_) | refine draw_any 6 [(0, true), (1, true), (2, true), (4, true), (5, true), (7, true), (3, true), (6, true), (8, false), (9, false), (10, false)] [⟨sn, _⟩, ⟨pn, _⟩] rfl (by kernel_rfl) (kept_of (.cons takeC (.cons takeC .nil)) ?_) | refine kept_of (.cons takeC (.cons takeC .nil)) ?_ | refine fld1_row (n := sn) stC_0 ?_ | refine fld1 ?_ | refine ld1_lit (n := pn) ?_ | refine call_gr hw (.one takeG) ?_ | refine call_val must_ok ?_ | refine st_lit rfl ?_ | refine need (by first | rfl | omega) ?_ | (refine wr (fun z hz => ?_); (try rw [Int.tdiv_eq_ediv_of_nonneg (by omega)] at hz); rw [w64 (by omega) (by omega)] at hz; subst hz) | (refine ifs (fun h => ?_) (fun h => ?_) <;> try (exfalso; first | omega | with_reducible first | contradiction | exact h rfl)))
     all_goals (conv => whnf)
     all_goals exact ⟨rfl, fin_g (A := rgM ⟨a, wrK r1 d (y1.l.take (j + 1))⟩ ++ (stB sn x :: ⟨og, _⟩ :: (putsM (L.take k) ++ (⟨g, _⟩ :: putsM (L.drop (k + 1)))))) (.grp takeG (.blk takeC (.blk takeC (.grp takeE (.blk takeC (.one takeE)))))) ⟨y1.l.length - (j + 1), by omega, j + 1, rfl, by omega, rfl, rfl⟩⟩
   · obtain rfl : j = y1.l.length := by omega
     rw [List.take_length]
     repeat' ((conv => whnf); first
      | (refine wr (fun z hz => ?_); (try rw [Int.tdiv_eq_ediv_of_nonneg (by omega)] at hz); rw [w64 (by omega) (by omega)] at hz; subst hz) | (refine ifs (fun h => ?_) (fun h => ?_) <;> try (exfalso; first | omega | with_reducible first | contradiction | exact h rfl)))
     all_goals (conv => whnf)
     all_goals
      rw [← hrp]
      exact ⟨rfl, fin_g (A := rgM ⟨a, rpR r d ((L.take (k + 1)).map (·.1))⟩ ++ (stB sn x :: ⟨og, _⟩ :: (putsM (L.take k) ++ (S.blk 117 (flatV y1.l) ++ putsM (L.drop (k + 1)))))) (.grp takeG (.blk takeC (.blk takeC (.grp takeE (.grp takeE (.one takeE)))))) ⟨L.length - (k + 1), by omega, k + 1, rfl, by omega, rfl, rfl⟩⟩
 · obtain rfl : k = L.length := by omega
   rw [List.take_length]
   repeat' ((conv => whnf); first
    | (refine ifs (fun h => ?_) (fun h => ?_) <;> try (exfalso; first | omega | with_reducible first | contradiction | exact h rfl)))
   all_goals (conv => whnf)
   all_goals exact fin_g (A := rgM ⟨a, rpR r d (L.map (·.1))⟩ ++ (stB sn x :: ⟨og, _⟩ :: putsM L)) (.grp takeG (.blk takeC (.blk takeC (.one takeE)))) ⟨rfl, rfl⟩
end Stg
namespace Stg
open Go Ev Sha Aes Orc Node Rec Chn Jrn Cau Sto Srt Wld Cmt
open Rig (Fnc_takeR RigP Rg rgM readR writeR flushR setRegR z64 app_of tick comes write_ mayE RigA regR)
open Tree (TreP TreA Tre treM)
theorem LdI.tks {r : RigP} {super : ByteArray} {d area used : Nat} {R : List Rc} {J : JrP} (h : LdI r super d area used R J) (k : Nat) : LdI (tks r k) super d area used R J :=
 ⟨h.d1, h.ar1, h.s64, h.eq, h.hd, h.ok, h.us, h.u1, h.u80, by
   rw [← h.bl]
   unfold nws
   exact List.map_congr_left fun j _ => nw_tks r d _ k⟩
structure OpI (r : RigP) (super : ByteArray) (g0 g1 g2 : Int) (ck : ByteArray) (y : RgV) (J0 J1 : JrP) (R0 R1 : List Rc) : Prop where
 fine : Fine r
 reg : r.reg = y.lay
 yok : y.ok
 at_ : y.at_ = true
 ep : 0 ≤ y.ep ∧ y.ep ≤ 4294967294
 s0 : nw_ r 0 0 = super
 su : SuI super g0 g1 g2 ck
 l0 : LdI r super 0 J0.area J0.used R0 J0
 l1 : LdI r super 1 J1.area J1.used R1 J1
 rj : RJ y J0 J1
 sq0 : seqOk J0.seq
 sq1 : seqOk J1.seq
def opR (r : RigP) (J0 J1 : JrP) (R0 R1 : List Rc) : RigP := rpR (rpR (tks (tks (tks r 2) J0.used) J1.used) 0 R0) 1 R1
def RgV.nx (y : RgV) : RgV := { y with ep := y.ep + 1 }
def opS (x : StP) (super : ByteArray) (g0 g1 g2 : Int) (jn jm tn0 tn1 : Nat) (Y : RgV) : StP :=
 { x with super := super, g0 := g0, g1 := g1, g2 := g2, j0 := some ⟨jn, 0, none⟩, t0 := some ⟨tn0, 0, none⟩, j1 := some ⟨jm, 0, none⟩, t1 := some ⟨tn1, 0, none⟩, is := Y }
def OpP (a : RigA) (r5 : RigP) (o : Orc) (sn : Nat) (x : StP) (super : ByteArray) (g0 g1 g2 : Int) (y : RgV) (J0 J1 : JrP) (C : List Blk) (M : List Blk) : Prop :=
 ∃ (o' : Orc) (q : Ax) (jn jm tn0 tn1 : Nat) (A0 A1 : TreA), q.s.r = r5 ∧ q.s.ts.length ≤ o.ts.length + 200 ∧ q.j0 = J0 ∧ q.j1 = J1 ∧ q.y = RgV.nx y ∧ A0.rn = x.rn ∧ A0.on = x.on ∧ A1.rn = x.rn ∧ A1.on = x.on ∧ o'.on = o.on ∧ o'.ts = (areas2G super q).1.s.ts ∧ (areas2G super q).2 = 0 ∧
   M = rgM ⟨a, (areas2G super q).1.s.r⟩ ++ (orcM o' ++ (stB sn (opS x super g0 g1 g2 jn jm tn0 tn1 (areas2G super q).1.y) :: jB jn a.rn o.on (areas2G super q).1.j0 :: jB jm a.rn o.on (areas2G super q).1.j1 :: (treM tn0 ⟨A0, ⟨0, J0.root, [], []⟩⟩ ++ (treM tn1 ⟨A1, ⟨1, J1.root, [], []⟩⟩ ++ C))))
theorem stC_ep {x : StP} : (stC x)[74]? = some (.int .i64 x.is.ep) := rfl
theorem rg_ep {y : RgV} : (regC y)[64]? = some (.int .i64 y.ep) := rfl
theorem regC_sep {y : RgV} {v : Int} : (regC y).set 64 (.int .i64 v) = regC { y with ep := v } := rfl
theorem st_ep {P : Program} {M : List Blk} {n : Nat} {T : TypeId} {f : Blk → List Blk} {k : List Blk → Prop} {y : RgV} {v : Int} [z : Zip M n (.row (regC y) T) f] (hk : k (f ⟨n, .row (regC { y with ep := v }) T⟩)) : StN P M n 64 [.int .i64 v] k := st_row rfl (by rw [regC_len]; omega) (by rw [regC_sep]; exact hk)
attribute [local irreducible] dgV D jC wrF rcC stC regC RgV.lay rgM readR rcP convert Builtin.copy_ Builtin.append_ Instr.makeSlice flatV recN recLs rowR putsM blks regR areas2G tks rpR
theorem open1 (a : RigA) (r : RigP) (o : Orc) (sn cs cb cc : Nat) (x : StP) (super : ByteArray) (g0 g1 g2 : Int) (ck : ByteArray) (y : RgV) (J0 J1 : JrP) (R0 R1 : List Rc) (h : OpI r super g0 g1 g2 ck y J0 J1 R0 R1) (hrn : x.rn = a.rn) (hon : x.on = o.on) (hb : o.ts.length ≤ 1099511500000)
 (hA : ∀ ts, (areas2G super ⟨⟨opR r J0 J1 R0 R1, ts⟩, J0, J1, RgV.nx y⟩).2 = 0) :
 Fnc Tryz.prog 143 [pt cs, pt cb, pt cc] (rgM ⟨a, r⟩ ++ (orcM o ++ [stB sn x, cSt cs sn, cBo cb false, cSr cc ⟨#[]⟩]))
  (fun e M => OpP a (opR r J0 J1 R0 R1) o sn x super g0 g1 g2 y J0 J1 [cSt cs sn, cBo cb false, cSr cc ck] M ∧ e = .returned (.tuple #[])) := by
 have hlook := look_ a r sn x y super g0 g1 g2 ck h.fine hrn h.yok h.reg h.s0 h.su
 have hdev := devices_ sn (StP.lk x y super g0 g1 g2) h.at_
 have hl0 := load0_ a (tks r 2) o sn (StP.lk x y super g0 g1 g2) J0.area J0.used R0 J0 (tks_f h.fine 2) hrn hon (h.l0.tks 2) h.rj.r0 h.rj.u0 h.rj.a0 (by omega)
 have hep := h.ep
 have hn0 : R0.length ≤ 80 := by have := blks_ge R0; have := h.l0.us; have := h.l0.u80; omega
 have hn1 : R1.length ≤ 80 := by have := blks_ge R1; have := h.l1.us; have := h.l1.u80; omega
 have hq0 : 1 ≤ R0.length := by obtain ⟨b, t, e, _⟩ := h.l0.hd; rw [e]; simp
 have hq1 : 1 ≤ R1.length := by obtain ⟨b, t, e, _⟩ := h.l1.hd; rw [e]; simp
 have hl1 := fun (jn : Nat) (o1 : Orc) (e1 : o1.on = o.on) (e2 : o1.ts.length ≤ o.ts.length + 1 + R0.length) => show Fnc Tryz.prog 145 [pt sn, .int .i64 1] (rgM ⟨a, tks (tks r 2) J0.used⟩ ++ (orcM o1 ++ [stB sn { StP.lk x y super g0 g1 g2 with j0 := some ⟨jn, 0, none⟩ }]))
  (fun e M => ∃ (jm : Nat) (L : List RS) (O : Own) (o' : Orc), L.map (·.1) = R1 ∧ (∀ y ∈ L, OkR y) ∧ O.ok 34 L.length (rowR L) ∧ o'.on = o.on ∧ o'.ts.length ≤ o1.ts.length + 1 + R1.length ∧ e = .returned (O.val L.length) ∧
    M = rgM ⟨a, tks (tks (tks r 2) J0.used) J1.used⟩ ++ (orcM o' ++ (stB sn { { StP.lk x y super g0 g1 g2 with j0 := some ⟨jn, 0, none⟩ } with j1 := some ⟨jm, 0, none⟩ } :: jB jm a.rn o.on J1 :: (O.blk 191 (rowR L) ++ putsM L)))) by
  have := load1_ a (tks (tks r 2) J0.used) o1 sn { StP.lk x y super g0 g1 g2 with j0 := some ⟨jn, 0, none⟩ } J1.area J1.used R1 J1 (tks_f (tks_f h.fine 2) _) hrn (hon.trans e1.symm) ((h.l1.tks 2).tks _) h.rj.r1 h.rj.u1 h.rj.a1 (by omega)
  rw [e1] at this
  exact this
 have f3 : Fine (tks (tks (tks r 2) J0.used) J1.used) := tks_f (tks_f (tks_f h.fine 2) _) _
 have hL : ∀ {R : List Rc} {L : List RS}, (∀ x ∈ R, chkE x.seq x.l = 0) → L.map (·.1) = R → (∀ y ∈ L, OkR y) → ∀ y ∈ L, OkR y ∧ chkE y.1.seq y.1.l = 0 := fun hk hm ho y hy => ⟨ho y hy, hk y.1 (by rw [← hm]; exact List.mem_map_of_mem hy)⟩
 have hr0 := fun (X : StP) (hX : X.rn = a.rn) (L : List RS) (O : Own) (hm : L.map (·.1) = R0) (ho : ∀ y ∈ L, OkR y) (hO : O.ok 34 L.length (rowR L)) => show Fnc Tryz.prog 146 [pt sn, .int .i64 0, O.val L.length] (rgM ⟨a, tks (tks (tks r 2) J0.used) J1.used⟩ ++ (stB sn X :: (O.blk 191 (rowR L) ++ putsM L)))
  (Ret (.tuple #[]) (rgM ⟨a, rpR (tks (tks (tks r 2) J0.used) J1.used) 0 R0⟩ ++ (stB sn X :: (O.blk 191 (rowR L) ++ putsM L)))) by
  have hln : L.length = R0.length := by rw [← hm, List.length_map]
  have := replay_ a (tks (tks (tks r 2) J0.used) J1.used) sn X 0 L O f3 hX (.inl rfl) (hL h.l0.ok hm ho) hO (by omega) (by omega)
  rw [hm] at this
  exact this
 have hr1 := fun (X : StP) (hX : X.rn = a.rn) (L : List RS) (O : Own) (hm : L.map (·.1) = R1) (ho : ∀ y ∈ L, OkR y) (hO : O.ok 34 L.length (rowR L)) => show Fnc Tryz.prog 146 [pt sn, .int .i64 1, O.val L.length] (rgM ⟨a, rpR (tks (tks (tks r 2) J0.used) J1.used) 0 R0⟩ ++ (stB sn X :: (O.blk 191 (rowR L) ++ putsM L)))
  (Ret (.tuple #[]) (rgM ⟨a, opR r J0 J1 R0 R1⟩ ++ (stB sn X :: (O.blk 191 (rowR L) ++ putsM L)))) by
  have hln : L.length = R1.length := by rw [← hm, List.length_map]
  have := replay_ a (rpR (tks (tks (tks r 2) J0.used) J1.used) 0 R0) sn X 1 L O (fine_rp f3 _ _) hX (.inr rfl) (hL h.l1.ok hm ho) hO (by omega) (by omega)
  rw [hm] at this
  exact this
 have hj0 := fun jn => jroot jn a.rn o.on J0
 have hj1 := fun jn => jroot jn a.rn o.on J1
 have hp0 := fun (X : StP) => show Fnc Tryz.prog 147 [pt sn, .int .i64 0, .agg (dgV J0.root).toArray] [stB sn X] (fun e A => ∃ (tn : Nat) (a : Tree.TreA), a.rn = X.rn ∧ a.on = X.on ∧ e = .returned (.tuple #[]) ∧ A = Tree.treM tn ⟨a, ⟨0, J0.root, [], []⟩⟩ ++ [stB sn { X with t0 := some ⟨tn, 0, none⟩ }]) from
  Ev.Fnc_mono (plant_ sn X 0 J0.root (by decide)) fun e A ⟨tn, a, h1, h2, h3, h4⟩ => ⟨tn, a, h1, h2, h3, by rw [h4]; rfl⟩
 have hp1 := fun (X : StP) => show Fnc Tryz.prog 147 [pt sn, .int .i64 1, .agg (dgV J1.root).toArray] [stB sn X] (fun e A => ∃ (tn : Nat) (a : Tree.TreA), a.rn = X.rn ∧ a.on = X.on ∧ e = .returned (.tuple #[]) ∧ A = Tree.treM tn ⟨a, ⟨1, J1.root, [], []⟩⟩ ++ [stB sn { X with t1 := some ⟨tn, 0, none⟩ }]) from
  Ev.Fnc_mono (plant_ sn X 1 J1.root (by decide)) fun e A ⟨tn, a, h1, h2, h3, h4⟩ => ⟨tn, a, h1, h2, h3, by rw [h4]; rfl⟩
 have hAr := fun (X : StP) (o2 : Orc) (jn jm l2 : Nat) (e0 : X.rn = a.rn) (e1 : X.on = o.on) (e2 : o2.on = o.on) (k0 : X.j0 = some ⟨jn, 0, none⟩) (k1 : X.j1 = some ⟨jm, 0, none⟩) (ks : X.super = super) (hl : o2.ts.length ≤ o.ts.length + 200) =>
  show Fnc Tryz.prog 121 [pt sn, .agg (regC (RgV.nx y)).toArray, .slice (some ⟨l2, 0, none⟩) 2 2] (⟨l2, .cells [.int .i64 0, .int .i64 1] 3⟩ :: (rgM ⟨a, opR r J0 J1 R0 R1⟩ ++ (orcM o2 ++ [stB sn X, jB jn a.rn o.on J0, jB jm a.rn o.on J1])))
   (fun e M => ∃ (o3 : Orc) (r0 r1 : Nat), o3.on = o.on ∧ o3.ts = (areas2G super ⟨⟨opR r J0 J1 R0 R1, o2.ts⟩, J0, J1, RgV.nx y⟩).1.s.ts ∧ e = .returned (.tuple #[]) ∧ M = rgM ⟨a, (areas2G super ⟨⟨opR r J0 J1 R0 R1, o2.ts⟩, J0, J1, RgV.nx y⟩).1.s.r⟩ ++ (orcM o3 ++ [stB sn (StP.wjj X r0 r1 (areas2G super ⟨⟨opR r J0 J1 R0 R1, o2.ts⟩, J0, J1, RgV.nx y⟩).1.y), jB r0 a.rn o.on (areas2G super ⟨⟨opR r J0 J1 R0 R1, o2.ts⟩, J0, J1, RgV.nx y⟩).1.j0, jB r1 a.rn o.on (areas2G super ⟨⟨opR r J0 J1 R0 R1, o2.ts⟩, J0, J1, RgV.nx y⟩).1.j1])) by
  have hA2 := hA o2.ts
  have h' := areas2 a ⟨⟨opR r J0 J1 R0 R1, o2.ts⟩, J0, J1, RgV.nx y⟩ o2 sn l2 2 jn jm X e0 (e1.trans e2.symm) rfl k0 k1 (by rw [ks]; exact h.su.size) h.l0.ar1 h.sq0 h.l1.ar1 h.sq1 (by show o2.ts.length ≤ _; omega)
  rw [ks] at h'
  dsimp only at h'
  generalize areas2G super ⟨⟨opR r J0 J1 R0 R1, o2.ts⟩, J0, J1, RgV.nx y⟩ = q at h' hA2 ⊢
  rw [e2] at h'
  refine Fnc_row (Fnc_perm (Fnc_mono h' ?_) ((TakesG.perm (M := rgM ⟨a, opR r J0 J1 R0 R1⟩ ++ (orcM o2 ++ [stB sn X, jB jn a.rn o.on J0, jB jm a.rn o.on J1, lB l2 [0, 1]])) (A := lB l2 [0, 1] :: (rgM ⟨a, opR r J0 J1 R0 R1⟩ ++ (orcM o2 ++ [stB sn X, jB jn a.rn o.on J0, jB jm a.rn o.on J1]))) (R := []) (.blk takeC (.grp takeG (.grp takeG (.blk takeC (.blk takeC (.blk takeC .nil))))))).trans (by rw [List.append_nil]; exact List.Perm.refl _)))
  rintro e M ⟨o3, r0, r1, g1, g2, ⟨g3, g4⟩ | ⟨g3, g4⟩, g5⟩
  · rw [if_pos hA2] at g5; exact ⟨o3, r0, r1, g1, g2, g4, g5⟩
  · exact absurd hA2 g3
 refine fn_intro Tryz.func143 (by kernel_rfl) ?_
 repeat' ((conv => whnf); first
  | refine call_gr hlook (.grp takeG (.blk takeC .nil)) ?_ | (refine call_g hdev (.blk takeC .nil) (fun e A' hq => ?_); obtain ⟨ln, h1, h2⟩ := hq; subst h1; subst h2) | refine loop_n 3 ?_ | refine nv_eq (a := 0) rfl ?_ | refine nv_eq (a := 1) rfl ?_ | refine nv_eq (a := 6) rfl ?_ | refine nv_eq (a := 8) rfl ?_ | (refine call_g hl0 (.grp takeG (.grp takeG (.blk takeC .nil))) (fun e A' hq => ?_); obtain ⟨jn, L0, O0, o1, p1, p2, p3, p4, p5, p6, p7⟩ := hq; subst p6; subst p7) | (refine call_g (hl1 jn o1 p4 p5) (.grp takeG (.grp takeG (.blk takeC .nil))) (fun e A' hq => ?_); obtain ⟨jm, L1, O1, o2, s1, s2, s3, s4, s5, s6, s7⟩ := hq; subst s6; subst s7) | refine ld1_row (n := sn) (v := .int .i64 y.ep) stC_ep ?_ | refine draw_any 15 [(1, true), (2, true), (3, true), (0, true), (4, false), (5, false)] [⟨cs, _⟩] rfl (by kernel_rfl) (kept_of (.cons takeC .nil) ?_) | refine draw_any 16 [(1, true), (3, true), (0, true), (2, false), (4, true), (5, true), (6, true), (7, true), (8, false), (9, false), (10, false)] [⟨cs, _⟩] rfl (by kernel_rfl) (kept_of (.cons takeC .nil) ?_) | refine kept_of (.cons takeC .nil) ?_ | refine fld1 ?_ | refine call_gr (hr0 _ (by exact hrn) L0 O0 p1 p2 p3) (.grp takeG (.blk takeC (.grp takeE (.one takeE)))) ?_ | refine call_gr (hr1 _ (by exact hrn) L1 O1 s1 s2 s3) (.grp takeG (.blk takeC (.grp takeE (.one takeE)))) ?_ | refine ld1_row (n := sn) (v := pt jn) stC_6 ?_ | refine ld1_row (n := sn) (v := pt jm) stC_8 ?_ | refine call_gr (hj0 jn) (.blk takeC .nil) ?_ | refine call_gr (hj1 jm) (.blk takeC .nil) ?_ | (refine call_g (hp0 _) (.blk takeC .nil) (fun e A' hq => ?_); obtain ⟨tn0, A0, b1, b2, b3, b4⟩ := hq; subst b3; subst b4) | (refine call_g (hp1 _) (.blk takeC .nil) (fun e A' hq => ?_); obtain ⟨tn1, A1, c1, c2, c3, c4⟩ := hq; subst c3; subst c4) | refine nw_row (cs' := regC rg0) rg0_e (fun xn => ?_) | refine force_of ?_ | refine ldN_row (n := sn) _ stC_is (regC_len _) ?_ | (refine need ?_ ?_; exact regC_len _) | refine st_rgl (y' := y) rfl ?_ | refine ld1_row (n := xn) (v := .int .i64 y.ep) rg_ep ?_ | refine st_ep ?_ | refine ldN_whole (n := xn) (regC_len _) ?_ | (refine call_g (hAr _ o2 jn jm _ (by exact hrn) (by exact hon) s4 (by rfl) (by rfl) (by rfl) (by omega)) (.blk takeC (.grp takeG (.grp takeG (.blk takeC (.blk takeC (.blk takeC .nil)))))) (fun e A' hq => ?_); obtain ⟨o3, r0, r1, d1, d2, d3, d4⟩ := hq; subst d3; subst d4) | refine ld1_lit ?_ | refine nw (fun n => ?_) | refine st_lit rfl ?_ | refine need (by first | rfl | omega) ?_ | (refine wr (fun z hz => ?_); (try rw [Int.tdiv_eq_ediv_of_nonneg (by omega)] at hz); rw [w64 (by omega) (by omega)] at hz; subst hz) | (refine ifs (fun h => ?_) (fun h => ?_) <;> try (exfalso; first | omega | with_reducible first | contradiction | exact h rfl)))
 all_goals (conv => whnf)
 exact fin_g (A := rgM _ ++ (orcM o3 ++ (stB sn (opS x super g0 g1 g2 r0 r1 tn0 tn1 (areas2G super ⟨⟨opR r J0 J1 R0 R1, o2.ts⟩, J0, J1, RgV.nx y⟩).1.y) :: jB r0 a.rn o.on _ :: jB r1 a.rn o.on _ :: (treM tn0 ⟨A0, ⟨0, J0.root, [], []⟩⟩ ++ (treM tn1 ⟨A1, ⟨1, J1.root, [], []⟩⟩ ++ [cSt cs sn, cBo cb false, cSr cc ck]))))) (.grp takeG (.grp takeG (.blk takeC (.blk takeC (.blk takeC (.grp takeG (.grp takeG (.blk takeC (.blk takeC (.blk takeC .nil))))))))))
  ⟨⟨o3, ⟨⟨opR r J0 J1 R0 R1, o2.ts⟩, J0, J1, RgV.nx y⟩, r0, r1, tn0, tn1, A0, A1, rfl, by show o2.ts.length ≤ _; omega, rfl, rfl, rfl, b1, b2, c1, c2, d1, d2, hA _, rfl⟩, rfl⟩
theorem open1E (a : RigA) (r : RigP) (o : Orc) (sn cs cb cc : Nat) (x : StP) (super : ByteArray) (g0 g1 g2 : Int) (ck : ByteArray) (y : RgV) (J0 J1 : JrP) (R0 R1 : List Rc) (h : OpI r super g0 g1 g2 ck y J0 J1 R0 R1) (hrn : x.rn = a.rn) (hon : x.on = o.on) (hb : o.ts.length ≤ 1099511500000)
 (hA : ∀ ts, (areas2G super ⟨⟨opR r J0 J1 R0 R1, ts⟩, J0, J1, RgV.nx y⟩).2 = 0) :
 Fnc Tryz.prog 90 [.func (.func 143) #[] #[pt cs, pt cb, pt cc]] (rgM ⟨a, r⟩ ++ (orcM o ++ [stB sn x, cSt cs sn, cBo cb false, cSr cc ⟨#[]⟩]))
  (fun e M => OpP a (opR r J0 J1 R0 R1) o sn x super g0 g1 g2 y J0 J1 [cSt cs sn, cBo cb false, cSr cc ck] M ∧ e = .returned (.int .i64 0)) :=
 caught_ret (cs := [pt cs, pt cb, pt cc]) (v := .tuple #[]) (open1 a r o sn cs cb cc x super g0 g1 g2 ck y J0 J1 R0 R1 h hrn hon hb hA)
end Stg
namespace Stg
open Go Ev Sha Aes Orc Node Rec Chn Jrn Cau Sto Srt Wld Cmt
open Rig (Fnc_takeR RigP Rg rgM readR writeR flushR setRegR z64 app_of tick comes write_ mayE RigA regR)
open Tree (TreP TreA Tre treM)
def stZ (rn on : Nat) : StP := ⟨rn, on, 0, 0, 0, ⟨#[]⟩, none, none, none, none, rg0, rg0, 0⟩
def szZ (rn on : Nat) : List Value := [pt rn, pt on, .int .i64 0, .int .i64 0, .int .i64 0, .string ⟨#[]⟩, .pointer none, .pointer none, .pointer none, .pointer none] ++
 (List.replicate 64 (Value.int .u8 0) ++ [.int .i64 0, .int .i64 0, .int .i64 0, .int .i64 0, .int .i64 0, .int .i64 0, .int .i64 0, .int .i64 0, .bool false] ++ (List.replicate 64 (Value.int .u8 0) ++ [.int .i64 0, .int .i64 0, .int .i64 0, .int .i64 0, .int .i64 0, .int .i64 0, .int .i64 0, .int .i64 0, .bool false] ++ [.int .i64 0]))
theorem stZ_e (rn on : Nat) : stC (stZ rn on) = szZ rn on := rfl
def opV (rn on : Nat) (super : ByteArray) (g0 g1 g2 : Int) (J0 J1 : JrP) (q : Ax) : StoV := ⟨rn, on, g0, g1, g2, super, q.j0, q.j1, ⟨0, J0.root, [], []⟩, ⟨1, J1.root, [], []⟩, q.y, q.y, 0⟩
def OpQ (a : RigA) (r5 : RigP) (o : Orc) (super : ByteArray) (g0 g1 g2 : Int) (ck : ByteArray) (y : RgV) (J0 J1 : JrP) : Ending → List Blk → Prop := fun e M =>
 ∃ (s : Sto) (o' : Orc) (q : Ax), q.s.r = r5 ∧ q.s.ts.length ≤ o.ts.length + 200 ∧ q.j0 = J0 ∧ q.j1 = J1 ∧ q.y = RgV.nx y ∧ o'.on = o.on ∧ o'.ts = (areas2G super q).1.s.ts ∧ (areas2G super q).2 = 0 ∧ s.V = opV a.rn o.on super g0 g1 g2 J0 J1 (areas2G super q).1 ∧ SOk s a.rn o.on ∧
   e = .returned (.tuple #[pt s.A.sn, .string ck, .int .i64 0]) ∧ M = rgM ⟨a, (areas2G super q).1.s.r⟩ ++ (orcM o' ++ stoM s)
attribute [local irreducible] dgV D jC wrF rcC stC regC RgV.lay rgM readR rcP convert Builtin.copy_ Builtin.append_ Instr.makeSlice flatV recN recLs rowR putsM blks regR areas2G tks rpR
theorem open_ (a : RigA) (r : RigP) (o : Orc) (super : ByteArray) (g0 g1 g2 : Int) (ck : ByteArray) (y : RgV) (J0 J1 : JrP) (R0 R1 : List Rc) (h : OpI r super g0 g1 g2 ck y J0 J1 R0 R1) (hb : o.ts.length ≤ 1099511500000)
 (hA : ∀ ts, (areas2G super ⟨⟨opR r J0 J1 R0 R1, ts⟩, J0, J1, RgV.nx y⟩).2 = 0) :
 Fnc Tryz.prog 85 [pt a.rn, pt o.on, .bool false] (rgM ⟨a, r⟩ ++ orcM o) (OpQ a (opR r J0 J1 R0 R1) o super g0 g1 g2 ck y J0 J1) := by
 have hc := fun (sn cs cb cc : Nat) => open1E a r o sn cs cb cc (stZ a.rn o.on) super g0 g1 g2 ck y J0 J1 R0 R1 h rfl rfl hb hA
 refine fn_intro Tryz.func85 (by kernel_rfl) ?_
 repeat' ((conv => whnf); first
  | (refine bld_cons (vs := [_]) rfl rfl rfl (Nat.le_of_ble_eq_true rfl) rfl ?_; refine bld_cons (vs := [_]) rfl rfl rfl (Nat.le_of_ble_eq_true rfl) rfl ?_; refine bld_nil ?_) | refine nw_row (cs' := stC (stZ a.rn o.on)) (stZ_e _ _) (fun sn => ?_) | refine force_of ?_ | (rename_i cbn csn; refine call_g (hc sn _ _ _) (.grp takeG (.grp takeG (.blk takeC (.blk takeC (.blk takeC (.blk takeC .nil)))))) (fun e A' hq => ?_); obtain ⟨⟨o', q, jn, jm, tn0, tn1, A0, A1, k1, k2, k3, k4, k5, k6, k7, k8, k9, k10, k11, k12, k13⟩, k14⟩ := hq; subst k13; subst k14) | refine draw_any 8 [(0, true), (1, false), (2, true), (3, true), (4, false), (5, true), (6, true), (7, false)] [⟨csn, _⟩] rfl (by kernel_rfl) (kept_of (.cons takeC .nil) ?_) | refine draw_any 9 [(0, true), (2, true), (1, false), (3, true), (4, true)] [⟨csn, _⟩] rfl (by kernel_rfl) (kept_of (.cons takeC .nil) ?_) | refine kept_of (.cons takeC .nil) ?_ | refine fld1 ?_ | refine ldN_row _ stC_is (regC_len _) ?_ | (refine need ?_ ?_; exact regC_len _) | refine st_nx ?_ | refine ld1_lit ?_ | refine nw (fun n => ?_) | refine st_lit rfl ?_ | refine need (by first | rfl | omega) ?_ | (refine ifs (fun h => ?_) (fun h => ?_) <;> try (exfalso; first | omega | with_reducible first | contradiction | exact h rfl)))
 all_goals (conv => whnf)
 exact fin_g (A := rgM ⟨a, _⟩ ++ (orcM o' ++ (⟨sn, _⟩ :: (⟨jn, _⟩ :: (⟨jm, _⟩ :: (treM tn0 ⟨A0, _⟩ ++ treM tn1 ⟨A1, _⟩)))))) (.grp takeG (.grp takeG (.blk takeC (.blk takeC (.blk takeC (.grp takeG (.one takeG)))))))
  ⟨⟨⟨sn, jn, jm, tn0, tn1, A0, A1⟩, opV a.rn o.on super g0 g1 g2 J0 J1 (areas2G super q).1⟩, o', q, k1, k2, k3, k4, k5, k10, k11, k12, rfl, ⟨rfl, rfl, k6, k7, k8, k9⟩, rfl, rfl⟩
theorem Open_ (a : RigA) (r : RigP) (o : Orc) (super : ByteArray) (g0 g1 g2 : Int) (ck : ByteArray) (y : RgV) (J0 J1 : JrP) (R0 R1 : List Rc) (h : OpI r super g0 g1 g2 ck y J0 J1 R0 R1) (hb : o.ts.length ≤ 1099511500000)
 (hA : ∀ ts, (areas2G super ⟨⟨opR r J0 J1 R0 R1, ts⟩, J0, J1, RgV.nx y⟩).2 = 0) :
 Fnc Tryz.prog 37 [pt a.rn, pt o.on] (rgM ⟨a, r⟩ ++ orcM o) (OpQ a (opR r J0 J1 R0 R1) o super g0 g1 g2 ck y J0 J1) := by
 have ho := open_ a r o super g0 g1 g2 ck y J0 J1 R0 R1 h hb hA
 refine fn_intro Tryz.func37 (by kernel_rfl) ?_
 repeat' ((conv => whnf); first
  | (refine call_g ho (.grp takeG (.one takeG)) (fun e A' hq => ?_); obtain ⟨s, o', q, k1, k2, k3, k4, k5, k6, k7, k8, k9, k10, k11, k12⟩ := hq; subst k11; subst k12))
 all_goals (conv => whnf)
 all_goals exact fin_all ⟨s, o', q, k1, k2, k3, k4, k5, k6, k7, k8, k9, k10, rfl, List.append_nil _⟩
end Stg
namespace Cmt
open Go Ev Sha Aes Orc Node Rec Chn Jrn Cau Sto Srt Stg Wld Bgn Ivs Ctr Aut
open Rig (Fnc_takeR RigP Rg rgM readR writeR flushR setRegR z64 app_of tick comes mayE RigA)
open Tree (TreP TreA Tre treM TI Same getS setS updB ShJ getT putT getT_ok putT_ok GetI PutI)
def DS (S : Sy) (g0 g1 : Nat → ByteArray) : Prop := ∃ C0 C1, DJ S.V.super S.r S.V.j0 S.V.j1 S.V.is C0 C1 ∧ TC S.V.j0.root C0 g0 ∧ TC S.V.j1.root C1 g1
theorem dr_same {r r' : RigP} {J : JrP} {d : Nat} {super : ByteArray} {R : List Rc} {C : Nat → ByteArray} (h : DR r J d super R C) (hs : Same r r') : DR r' J d super R C :=
 h.same (fun k => by unfold nw_; rw [hs.dev]) (fun k => by unfold sf_; rw [hs.dev])
theorem ds_same {S S' : Sy} {g0 g1 : Nat → ByteArray} (h : DS S g0 g1) (hs : Same S.r S'.r) (hr : S'.r.reg = S.r.reg) (h1 : S'.V.super = S.V.super) (h2 : S'.V.j0 = S.V.j0) (h3 : S'.V.j1 = S.V.j1) (h4 : S'.V.is = S.V.is) : DS S' g0 g1 := by
 obtain ⟨C0, C1, ⟨⟨⟨R0, d0⟩, ⟨R1, d1⟩, sp, rg⟩, n0, n1⟩, t0, t1⟩ := h
 have hn : ∀ d k, nw_ S'.r d k = nw_ S.r d k := fun d k => by unfold nw_; rw [hs.dev]
 have hf : ∀ d k, sf_ S'.r d k = sf_ S.r d k := fun d k => by unfold sf_; rw [hs.dev]
 refine ⟨C0, C1, ⟨⟨⟨R0, ?_⟩, ⟨R1, ?_⟩, ⟨?_, ?_, ?_, ?_⟩, ?_⟩, fun j k1 k2 => (hn 0 j).trans (n0 j k1 k2), fun j k1 k2 => (hn 1 j).trans (n1 j k1 k2)⟩, by rw [h2]; exact t0, by rw [h3]; exact t1⟩
 · rw [h2, h1]; exact dr_same d0 hs
 · rw [h3, h1]; exact dr_same d1 hs
 · rw [hn, h1]; exact sp.n
 · rw [hf, h1]; exact sp.s
 · rw [hn]; exact sp.n1
 · rw [hf]; exact sp.s1
 · rw [hr, h4]; exact rg
structure WK (a : RigA) (A : StoA) (on : Nat) (S : Sy) (f0 f1 : Nat → ByteArray) (m b : Nat) (N : Int) (g0 g1 : Nat → ByteArray) : Prop where
 wj : WJ a A on S f0 f1 m b N
 ds : DS S g0 g1
section
variable {a : RigA} {A : StoA} {B : VA} {on : Nat} {S : Sy} {f0 f1 g0 g1 : Nat → ByteArray} {m b : Nat} {N : Int}
theorem setTr_j (V : StoV) (d : Int) (t : TreP) : (V.setTr d t).super = V.super ∧ (V.setTr d t).j0 = V.j0 ∧ (V.setTr d t).j1 = V.j1 ∧ (V.setTr d t).is = V.is := by unfold StoV.setTr; split <;> exact ⟨rfl, rfl, rfl, rfl⟩
theorem wk_put (h : WK a A on S f0 f1 m b N g0 g1) {d : Int} {l : Nat} {s : ByteArray} (hd : d = 0 ∨ d = 1) (hl : l < 64) (hs : s.size = 64) (hm : m ≤ 57) {o' : Orc} (ho : o'.on = on) (hts : o'.ts = (putO S.r S.o.ts S.V d l s).ts) :
 WK a A on ⟨(putO S.r S.o.ts S.V d l s).r, o', (putO S.r S.o.ts S.V d l s).V.fl 0, S.v⟩ (up0 f0 d l s) (up1 f1 d l s) (m + 7) (b + 13) N g0 g1 := by
 refine ⟨wj_put h.wj hd hl hs hm ho hts, ?_⟩
 obtain ⟨F, ht, hi⟩ := wj_tree h.wj hd
 have hsh := wi_sh h.wj.wi hd hm
 have hg := putT_ok (ts := S.o.ts) ht h.wj.wi.vok.fine hl hs
 have hr := reg_putO S.r S.o.ts S.V d l s
 rw [putO_in hd hl hs hsh] at hr ⊢
 have hj := setTr_j S.V d (putT S.r S.o.ts (S.V.tr d) l s).t
 exact ds_same h.ds hg.same hr hj.1 hj.2.1 hj.2.2.1 hj.2.2.2
theorem wk_get (h : WK a A on S f0 f1 m b N g0 g1) {d : Int} {l : Nat} (hd : d = 0 ∨ d = 1) (hl : l < 64) {o' : Orc} (ho : o'.on = on) (hts : o'.ts = (getO S.r S.o.ts S.V d l).ts) :
 WK a A on ⟨(getO S.r S.o.ts S.V d l).r, o', (getO S.r S.o.ts S.V d l).V.fl 0, S.v⟩ f0 f1 m (b + 7) N g0 g1 := by
 refine ⟨wj_get h.wj hd hl ho hts, ?_⟩
 obtain ⟨F, ht, hi⟩ := wj_tree h.wj hd
 have hg := getT_ok (ts := S.o.ts) ht h.wj.wi.vok.fine hl
 have hr := reg_getO S.r S.o.ts S.V d l
 rw [getO_in hd hl] at hr ⊢
 have hj := setTr_j S.V d (getT S.r S.o.ts (S.V.tr d) l).t
 exact ds_same h.ds hg.same hr hj.1 hj.2.1 hj.2.2.1 hj.2.2.2
theorem w_plainK (h : WK a A on S f0 f1 m b N g0 g1) {d : Int} {l : Nat} {s : ByteArray} (hd : d = 0 ∨ d = 1) (hl : l < 64) (hs48 : s.size = 48) (hm : m ≤ 57) (hb : b ≤ 1099511610000) :
 Fnc Tryz.prog 20 [pt B.vn, .int .i64 d, .int .i64 l, .string s] (syM a A B S)
  (AQ a A B (fun S' => WK a A on S' (up0 f0 d l (layB 0 2 s)) (up1 f1 d l (layB 0 2 s)) (m + 7) (b + 13) N g0 g1 ∧ S'.v = S.v ∧ Sm S.V S'.V) (.int .i64 0)) := by
 obtain ⟨r, o, V, v⟩ := S
 have hp := put h.wj.wi hd hl (layB_size num0 2 hs48) hm
 have hs := plain_ a r o A V B v d l s (h.wj.wi.can hb) hs48
 have hsm := sm_put (r := r) (ts := o.ts) (V := V) hd hl (layB_size num0 2 hs48) (wi_sh h.wj.wi hd hm)
 have hj := fun (o' : Orc) (k1 : o'.on = on) (k2 : o'.ts = (putO r o.ts V d l (layB 0 2 s)).ts) => wk_put h hd hl (layB_size num0 2 hs48) hm k1 k2
 obtain ⟨q, eq⟩ : ∃ q, q = putO r o.ts V d l (layB 0 2 s) := ⟨_, rfl⟩
 have eq' : putO r o.ts V d l (layB 0 2 s) = q := eq.symm
 rw [show (⟨r, o, V, v⟩ : Sy).r = r from rfl, show (⟨r, o, V, v⟩ : Sy).o = o from rfl, show (⟨r, o, V, v⟩ : Sy).V = V from rfl, eq'] at hp
 rw [eq'] at hsm
 dsimp only at hj
 rw [eq'] at hj
 rw [eq', hp.e] at hs
 rw [sy_2]
 refine Fnc_mono (Fnc_more hs) ?_
 rintro e M ⟨A', h1, o', h2, h3, h4, h5⟩
 subst h4; subst h1
 exact ⟨⟨q.r, o', q.V.fl 0, v⟩, ⟨hj o' (h2.trans h.wj.wi.on) h3, rfl, sm_fl hsm 0⟩, h5, (sy_2 _ _ _ _ _ _ _).symm⟩
theorem w_clearK (h : WK a A on S f0 f1 m b N g0 g1) {d : Int} {l : Nat} (hd : d = 0 ∨ d = 1) (hl : l < 64) (hm : m ≤ 57) (hb : b ≤ 1099511610000) :
 Fnc Tryz.prog 78 [pt B.vn, .int .i64 d, .int .i64 l] (syM a A B S)
  (AQ a A B (fun S' => WK a A on S' (up0 f0 d l z64) (up1 f1 d l z64) (m + 7) (b + 13) N g0 g1 ∧ S'.v = S.v ∧ Sm S.V S'.V) (.int .i64 0)) := by
 obtain ⟨r, o, V, v⟩ := S
 have hp := put h.wj.wi hd hl z64_size hm
 have hs := clearv a r o A V B v d l (h.wj.wi.can hb)
 have hsm := sm_put (r := r) (ts := o.ts) (V := V) hd hl z64_size (wi_sh h.wj.wi hd hm)
 have hj := fun (o' : Orc) (k1 : o'.on = on) (k2 : o'.ts = (putO r o.ts V d l z64).ts) => wk_put h hd hl z64_size hm k1 k2
 obtain ⟨q, eq⟩ : ∃ q, q = putO r o.ts V d l z64 := ⟨_, rfl⟩
 have eq' : putO r o.ts V d l z64 = q := eq.symm
 rw [show (⟨r, o, V, v⟩ : Sy).r = r from rfl, show (⟨r, o, V, v⟩ : Sy).o = o from rfl, show (⟨r, o, V, v⟩ : Sy).V = V from rfl, eq'] at hp
 rw [eq'] at hsm
 dsimp only at hj
 rw [eq'] at hj
 rw [eq', hp.e] at hs
 rw [sy_2]
 refine Fnc_mono (Fnc_more hs) ?_
 rintro e M ⟨A', h1, o', h2, h3, h4, h5⟩
 subst h4; subst h1
 exact ⟨⟨q.r, o', q.V.fl 0, v⟩, ⟨hj o' (h2.trans h.wj.wi.on) h3, rfl, sm_fl hsm 0⟩, h5, (sy_2 _ _ _ _ _ _ _).symm⟩
theorem w_readK (h : WK a A on S f0 f1 m b N g0 g1) (hf : FB f0 ∧ FB f1) {d : Int} {l : Nat} (hd : d = 0 ∨ d = 1) (hl : l < 64) (hb : b ≤ 1099511610000) :
 Fnc Tryz.prog 32 [pt B.vn, .int .i64 d, .int .i64 l] (syM a A B S)
  (AQ a A B (fun S' => WK a A on S' f0 f1 m (b + 7) N g0 g1 ∧ S'.v = S.v ∧ Sm S.V S'.V) (.tuple #[.string (dat S.v.k (fs f0 f1 d l)), .int .i64 0])) := by
 obtain ⟨r, o, V, v⟩ := S
 have hp := got h.wj.wi hd hl
 have hsm := sm_get (r := r) (ts := o.ts) (V := V) hd hl
 have hj := fun (o' : Orc) (k1 : o'.on = on) (k2 : o'.ts = (getO r o.ts V d l).ts) => wk_get h hd hl k1 k2
 obtain ⟨q, eq⟩ : ∃ q, q = getO r o.ts V d l := ⟨_, rfl⟩
 have eq' : getO r o.ts V d l = q := eq.symm
 rw [show (⟨r, o, V, v⟩ : Sy).r = r from rfl, show (⟨r, o, V, v⟩ : Sy).o = o from rfl, show (⟨r, o, V, v⟩ : Sy).V = V from rfl, eq'] at hp
 rw [eq'] at hsm
 dsimp only at hj
 rw [eq'] at hj
 have hs := readv a r o A V B v d l (h.wj.wi.can hb) h.wj.wi.key q eq (fun _ hi => by
  rw [hp.s hi]
  rcases (FB.fs hf.1 hf.2 d) l hl with h1 | h1
  · exact absurd h1 (hp.is.1 hi)
  · exact h1)
 have hv : readS v.k q = dat v.k (fs f0 f1 d l) := by
  unfold readS dat
  rw [if_neg (by simp [hp.e])]
  by_cases hz : fs f0 f1 d l = z64
  · rw [if_pos hz]
    have : q.is = false := by
     cases hi : q.is with
     | false => rfl
     | true => exact absurd hz (hp.is.1 hi)
    rw [if_pos this]
  · rw [if_neg hz]
    have hi := hp.is.2 hz
    rw [if_neg (by simp [hi]), hp.s hi]
 rw [hv, hp.e] at hs
 rw [sy_3]
 refine Fnc_mono (Fnc_more hs) ?_
 rintro e M ⟨A', h1, o', h2, h3, h4, h5⟩
 subst h4; subst h1
 exact ⟨⟨q.r, o', q.V.fl 0, v⟩, ⟨hj o' (h2.trans h.wj.wi.on) h3, rfl, sm_fl hsm 0⟩, h5, (sy_3 _ _ _ _ _ _ _).symm⟩
theorem ds_num (h : DS S g0 g1) (x : RwP) (v : VP) : DS ⟨numR S.r S.V x, S.o, numV S.V x, v⟩ g0 g1 := by
 obtain ⟨C0, C1, ⟨dk, n0, n1⟩, t0, t1⟩ := h
 by_cases hc : x.next < x.top
 · have e1 : numR S.r S.V x = S.r := if_pos hc
   have e2 : numV S.V x = S.V := if_pos hc
   rw [e1, e2]
   exact ⟨C0, C1, ⟨dk, n0, n1⟩, t0, t1⟩
 · have e1 : numR S.r S.V x = srF S.r (S.V.is.to (needN x)).lay := if_neg hc
   have e2 : numV S.V x = { S.V with is := S.V.is.to (needN x), next := S.V.next.to (needN x) } := if_neg hc
   rw [e1, e2]
   exact ⟨C0, C1, ⟨dk.sr _, n0, n1⟩, t0, t1⟩
theorem wj_num (h : WJ a A on S f0 f1 m b N) (hn : S.v.x.next < S.v.x.many) : WJ a A on ⟨numR S.r S.V S.v.x, S.o, numV S.V S.v.x, sealX S.v⟩ f0 f1 (m + 1) b N := wj_sealed h hn
theorem wk_num (h : WK a A on S f0 f1 m b N g0 g1) (hn : S.v.x.next < S.v.x.many) : WK a A on ⟨numR S.r S.V S.v.x, S.o, numV S.V S.v.x, sealX S.v⟩ f0 f1 (m + 1) b N g0 g1 := ⟨wj_num h.wj hn, ds_num h.ds _ _⟩
theorem w_writeK (h : WK a A on S f0 f1 m b N g0 g1) {d : Int} {l : Nat} {s : ByteArray} (hd : d = 0 ∨ d = 1) (hl : l < 64) (hs48 : s.size = 48) (hn : S.v.x.next < S.v.x.many) (hm : m ≤ 50) (hb : b ≤ 1099511610000) :
 Fnc Tryz.prog 70 [pt B.vn, .int .i64 d, .int .i64 l, .string s] (syM a A B S)
  (AQ a A B (fun S' => WK a A on S' (up0 f0 d l (sealB S.v s)) (up1 f1 d l (sealB S.v s)) (m + 8) (b + 13) N g0 g1 ∧ S'.v = sealX S.v ∧ Sm (numV S.V S.v.x) S'.V) (.int .i64 0)) := by
 obtain ⟨r, o, V, v⟩ := S
 have hk := sealB_ok h.wj.wi.vok hn hs48
 have hw := wk_num h hn
 have hp := put hw.wj.wi hd hl hk.1 (by omega)
 have hsm := sm_put (r := numR r V v.x) (ts := o.ts) (V := numV V v.x) hd hl hk.1 (wi_sh hw.wj.wi hd (by omega))
 obtain ⟨q, eq⟩ : ∃ q, q = putO (numR r V v.x) o.ts (numV V v.x) d l (sealB v s) := ⟨_, rfl⟩
 have hs := write_ a r o A V B v d l s (h.wj.wi.can hb) h.wj.wi.vok hn h.wj.wi.key hs48 ⟨h.wj.wi.cnt.1, by have := h.wj.wi.cnt.2; simp only at this; omega⟩ q eq
 rw [← eq] at hsm
 have hp : PutW a A on ⟨numR r V v.x, o, numV V v.x, sealX v⟩ f0 f1 (m + 1) b d l (sealB v s) q := by rw [eq]; exact hp
 rw [hp.e] at hs
 refine Fnc_mono hs ?_
 rintro e M ⟨o', h2, h3, h4, h5⟩
 subst h4
 exact ⟨⟨q.r, o', q.V.fl 0, sealX v⟩, ⟨by have := wk_put hw hd hl hk.1 (by omega) (o' := o') (h2.trans h.wj.wi.on) (by rw [h3, eq]); rw [← eq] at this; exact this, rfl, sm_fl hsm 0⟩, h5, rfl⟩
theorem w_copyK (h : WK a A on S f0 f1 m b N g0 g1) {d e : Int} {l t : Nat} (hd : d = 0 ∨ d = 1) (hl : l < 64) (he : e = 0 ∨ e = 1) (ht : t < 64) (hz : (fs f0 f1 d l).size = 64) (hm : m ≤ 57) (hb : b ≤ 1099511600000) :
 Fnc Tryz.prog 71 [pt B.vn, .int .i64 d, .int .i64 l, .int .i64 e, .int .i64 t] (syM a A B S)
  (AQ a A B (fun S' => WK a A on S' (up0 f0 e t (fs f0 f1 d l)) (up1 f1 e t (fs f0 f1 d l)) (m + 7) (b + 20) N g0 g1 ∧ S'.v = S.v ∧ Sm S.V S'.V) (.int .i64 0)) := by
 obtain ⟨r, o, V, v⟩ := S
 have hg := got h.wj.wi hd hl
 have hgk := fun (o1 : Orc) (k1 : o1.on = on) (k2 : o1.ts = (getO r o.ts V d l).ts) => wk_get h hd hl k1 k2
 have hs1 := sm_get (r := r) (ts := o.ts) (V := V) hd hl
 obtain ⟨p, ep⟩ : ∃ p, p = getO r o.ts V d l := ⟨_, rfl⟩
 have hg : GotI a A on ⟨r, o, V, v⟩ f0 f1 m b d l p := by rw [ep]; exact hg
 have hbl : (if p.is then p.s else z64) = fs f0 f1 d l := by
  by_cases hi : p.is = true
  · rw [if_pos hi, hg.s hi]
  · rw [if_neg hi]
    by_cases hzz : fs f0 f1 d l = z64
    · exact hzz.symm
    · exact absurd (hg.is.2 hzz) hi
 obtain ⟨q, eq⟩ : ∃ q, q = putO p.r p.ts (p.V.fl 0) e t (if p.is then p.s else z64) := ⟨_, rfl⟩
 obtain ⟨o1, ho1, ho2⟩ := orc_of on p.ts
 have hw := hg.wi o1 ho1 ho2
 rw [← ep] at hs1
 have hs2 := sm_put (r := p.r) (ts := o1.ts) (V := p.V.fl 0) he ht hz (wi_sh hw he hm)
 have hc := hw.can (by omega)
 have hq : putO p.r o1.ts (p.V.fl 0) e t (fs f0 f1 d l) = q := by rw [ho2, eq, hbl]
 rw [hq] at hs2
 have hp : PutW a A on ⟨p.r, o1, p.V.fl 0, v⟩ f0 f1 m (b + 7) e t (fs f0 f1 d l) q := by
  have := put hw he ht hz hm
  rw [show putO (⟨p.r, o1, p.V.fl 0, v⟩ : Sy).r (⟨p.r, o1, p.V.fl 0, v⟩ : Sy).o.ts (⟨p.r, o1, p.V.fl 0, v⟩ : Sy).V e t (fs f0 f1 d l) = q from hq] at this
  exact this
 have hs := copy_ok a r o A V B v d l e t (h.wj.wi.can (by omega)) p q ep hg.e ⟨by rw [show o.on = o1.on from (h.wj.wi.on.trans ho1.symm)]; exact hc.ok, hc.att, hc.fl, by rw [← ho2]; exact hc.len⟩ eq
 rw [hp.e] at hs
 rw [sy_2]
 refine Fnc_mono (Fnc_more hs) ?_
 rintro x M ⟨A', h1, o', h2, h3, h4, h5⟩
 subst h4; subst h1
 exact ⟨⟨q.r, o', q.V.fl 0, v⟩, ⟨by have hk := hgk o1 ho1 (by rw [ho2, ep]); rw [← ep] at hk; have := wk_put hk he ht hz hm (o' := o') (h2.trans h.wj.wi.on) (by rw [h3, ← hq]); rw [show putO (⟨p.r, o1, p.V.fl 0, v⟩ : Sy).r (⟨p.r, o1, p.V.fl 0, v⟩ : Sy).o.ts (⟨p.r, o1, p.V.fl 0, v⟩ : Sy).V e t (fs f0 f1 d l) = q from hq] at this; exact this, rfl, sm_fl ((sm_fl hs1 0).trans hs2) 0⟩, h5, (sy_2 _ _ _ _ _ _ _).symm⟩
theorem w_getK (h : WK a A on S f0 f1 m b N g0 g1) {d : Int} {l : Nat} (hd : d = 0 ∨ d = 1) (hl : l < 64) (hz : fs f0 f1 d l ≠ z64) (hb : b ≤ 1099511610000) :
 Fnc Tryz.prog 44 [pt A.sn, .int .i64 d, .int .i64 l] (syM a A B S)
  (AQ a A B (fun S' => WK a A on S' f0 f1 m (b + 7) N g0 g1 ∧ S'.v = S.v ∧ Sm S.V S'.V) (.tuple #[.string (fs f0 f1 d l), .bool true, .int .i64 0])) := by
 obtain ⟨r, o, V, v⟩ := S
 have hp := got h.wj.wi hd hl
 have hc := h.wj.wi.can hb
 have hs := get_ a r o A V d l hc.ok hc.att hc.fl hc.len
 obtain ⟨q, eq⟩ : ∃ q, q = getO r o.ts V d l := ⟨_, rfl⟩
 have hp : GotI a A on ⟨r, o, V, v⟩ f0 f1 m b d l q := by rw [eq]; exact hp
 have hi := hp.is.2 hz
 have hsm := sm_get (r := r) (ts := o.ts) (V := V) hd hl
 rw [← eq] at hsm
 rw [← eq, hp.e, hi, hp.s hi] at hs
 show Fnc _ _ _ (sysM a r o A V ++ vM B A.sn v) _
 refine Fnc_mono (Fnc_more hs) ?_
 rintro x M ⟨A', h1, o', h2, h3, h4, h5⟩
 subst h4; subst h1
 exact ⟨⟨q.r, o', q.V.fl 0, v⟩, ⟨by have := wk_get h hd hl (o' := o') (h2.trans h.wj.wi.on) (by rw [h3, eq]); rw [← eq] at this; exact this, rfl, sm_fl hsm 0⟩, h5, rfl⟩
theorem WK.less (h : WK a A on S f0 f1 m b N g0 g1) {m' b' : Nat} {N' : Int} (h0 : S.V.t0.sheet.length ≤ m') (h1 : S.V.t1.sheet.length ≤ m') (hv : S.v.n ≤ m') (hb : b ≤ b') (hN : N ≤ N') : WK a A on S f0 f1 m' b' N' g0 g1 := by
 have w := h.wj.wi
 have j := h.wj
 exact ⟨⟨⟨w.sok, w.on, w.t0, w.t1, w.d0, w.d1, h0, h1, Nat.le_trans w.len hb, w.vok, w.key, ⟨w.cnt.1, hv⟩⟩, j.t0, j.t1, ⟨j.j0.d, j.j0.area, j.j0.used, ⟨j.j0.sq.1, by have := j.j0.sq.2; omega⟩, j.j0.sup⟩, ⟨j.j1.d, j.j1.area, j.j1.used, ⟨j.j1.sq.1, by have := j.j1.sq.2; omega⟩, j.j1.sup⟩, j.rj, j.ok, j.s64⟩, h.ds⟩
theorem ds_com {S' : Sy} (h : WK a A on S f0 f1 m b N g0 g1) {A' : StoA} (k : CmW a on S f0 f1 m b N A' S') : DS S' f0 f1 := by
 obtain ⟨q, co, e1, e2⟩ := k.co
 obtain ⟨C0, C1, hj, t0, t1⟩ := h.ds
 have hd := co.dj (C0 := C0) (C1 := C1) hj
 obtain ⟨F0, i0, s0⟩ := h.wj.t0
 obtain ⟨F1, i1, s1⟩ := h.wj.t1
 have w := h.wj.wi
 have c0 := tc_of i0 s0 (C := C0) (by rw [w.d0]; exact hj.n0)
 have c1 := tc_of i1 s1 (C := C1) (by rw [w.d1]; exact hj.n1)
 refine ⟨ovl S.V.t0.sheet C0, ovl S.V.t1.sheet C1, ?_, ?_, ?_⟩
 · rw [e1, e2]
   have e3 : (S.V.wq q.1).super = S.V.super := rfl
   rw [e3]; exact hd
 · rw [e2]
   show TC q.1.j0.root _ _
   have e : q.1.j0.root = if S.V.t0.sheet = [] then S.V.j0.root else S.V.t0.root := co.rt0
   rw [e]
   by_cases hz : S.V.t0.sheet = []
   · rw [if_pos hz]
     rw [hz] at c0 ⊢
     exact ⟨c0.sz, c0.fsz, c0.lf, t0.root, c0.kid⟩
   · rw [if_neg hz]; exact c0
 · rw [e2]
   show TC q.1.j1.root _ _
   have e : q.1.j1.root = if S.V.t1.sheet = [] then S.V.j1.root else S.V.t1.root := co.rt1
   rw [e]
   by_cases hz : S.V.t1.sheet = []
   · rw [if_pos hz]
     rw [hz] at c1 ⊢
     exact ⟨c1.sz, c1.fsz, c1.lf, t1.root, c1.kid⟩
   · rw [if_neg hz]; exact c1
theorem nw_fr1 (r : RigP) (d : Nat) (hd : d ≤ 1) (d' : Int) (hd' : d' = 0 ∨ d' = 1) (j : Nat) (hj : j < 161) : nw_ (frR r d 0) d' j = if d' = (d : Int) ∧ j = 1 then frB else nw_ r d' j := by
 unfold frR layR
 rw [nw_wr _ _ _ _ _ _ (by omega) hd', nw_layL _ d hd d' hd', nw_layN _ d hd d' hd']
 by_cases h : d' = (d : Int) ∧ j = 1
 · rw [if_pos h, if_pos ⟨h.1, by omega⟩]
 · rw [if_neg h, if_neg (fun g => h ⟨g.1, by omega⟩), if_neg (by omega), if_neg (by omega)]
theorem frJ_b (super : ByteArray) (d : Nat) : frJ super d 0 = begJ super d 0 0 (bare 6).2 := by
 unfold frJ begJ addJ addJs
 rw [nextSs_1]; rfl
noncomputable def cB : Nat → ByteArray := fun j => if j < 224 then (bare (high (j - 161))).1 else (bare 0).1
theorem tc_bare {r : RigP} {d : Int} (hd : d = 0 ∨ d = 1) (h : ∀ j, 161 ≤ j → j < 288 → nw_ r d j = cB j) : TC (bare 6).2 cB (fun _ => z64) := tc_of (ti_bare hd h) (si_bare h) h
theorem ds_new (r : RigP) (super : ByteArray) (hz : (nw_ r 1 0).size = 64) : DK super (fmR r super) (frJ super 0 0) (frJ super 1 0) (fmV super) cB cB := by
 obtain ⟨rB, eB⟩ : ∃ rB, rB = frR (frR (wrF r 0 0 super) 0 0) 1 0 := ⟨_, rfl⟩
 have e : fmR r super = srF (flN rB [0, 1]) (fmV super).lay := by rw [eB]; rfl
 have hw : ∀ d, d = 0 ∨ d = 1 → ∀ j, 161 ≤ j → j < 288 → nw_ rB d j = cB j := fun d hd j h1 h2 => by
  have := fm_nw r super hd j h1 h2
  rw [e] at this
  exact (nw_flN hd j [0, 1] rB (by decide)).symm.trans this
 have b0 : nw_ rB 0 (1 + 80 * 0) = recB 0 (bare 6).2 := by
  rw [eB, nw_fr1 _ 1 (by omega) 0 (.inl rfl) _ (by omega), if_neg (fun g => absurd g.1 (by decide)), nw_fr1 _ 0 (by omega) 0 (.inl rfl) _ (by omega), if_pos ⟨rfl, rfl⟩]; rfl
 have b1 : nw_ rB 1 (1 + 80 * 0) = recB 0 (bare 6).2 := by
  rw [eB, nw_fr1 _ 1 (by omega) 1 (.inr rfl) _ (by omega), if_pos ⟨rfl, rfl⟩]; rfl
 have s0 : nw_ rB 0 0 = super := by
  rw [eB, nw_fr1 _ 1 (by omega) 0 (.inl rfl) _ (by omega), if_neg (fun g => absurd g.1 (by decide)), nw_fr1 _ 0 (by omega) 0 (.inl rfl) _ (by omega), if_neg (fun g => absurd g.2 (by decide)), nw_wr _ 0 0 0 0 _ (.inl rfl) (.inl rfl), if_pos ⟨rfl, rfl⟩]
 have s1 : nw_ rB 1 0 = nw_ r 1 0 := by
  rw [eB, nw_fr1 _ 1 (by omega) 1 (.inr rfl) _ (by omega), if_neg (fun g => absurd g.2 (by decide)), nw_fr1 _ 0 (by omega) 1 (.inr rfl) _ (by omega), if_neg (fun g => absurd g.1 (by decide)), nw_wr _ 0 1 0 0 _ (.inl rfl) (.inr rfl), if_neg (fun g => absurd g.1 (by decide))]
 rw [e, frJ_b, frJ_b]
 have f : ∀ d, d = 0 ∨ d = 1 → ∀ j, nw_ (srF (flN rB [0, 1]) (fmV super).lay) d j = nw_ rB d j := fun d hd j => nw_flN hd j [0, 1] rB (by decide)
 have g : ∀ d, d = 0 ∨ d = 1 → ∀ j, sf_ (srF (flN rB [0, 1]) (fmV super).lay) d j = nw_ rB d j := fun d hd j => sf_01 hd j rB
 refine ⟨⟨_, dr_beg (d := 0) (by unfold seqOk; omega) ⟨(f 0 (.inl rfl) _).trans b0, (g 0 (.inl rfl) _).trans b0⟩ fun j h1 h2 => ⟨(f 0 (.inl rfl) j).trans (hw 0 (.inl rfl) j h1 h2), (g 0 (.inl rfl) j).trans (hw 0 (.inl rfl) j h1 h2)⟩⟩,
  ⟨_, dr_beg (d := 1) (by unfold seqOk; omega) ⟨(f 1 (.inr rfl) _).trans b1, (g 1 (.inr rfl) _).trans b1⟩ fun j h1 h2 => ⟨(f 1 (.inr rfl) j).trans (hw 1 (.inr rfl) j h1 h2), (g 1 (.inr rfl) j).trans (hw 1 (.inr rfl) j h1 h2)⟩⟩, ⟨(f 0 (.inl rfl) 0).trans s0, (g 0 (.inl rfl) 0).trans s0, by rw [f 1 (.inr rfl) 0, s1]; exact hz, by rw [g 1 (.inr rfl) 0, s1]; exact hz⟩, rfl⟩
theorem wk_new {a : RigA} {A : StoA} {on : Nat} {r : RigP} {o : Orc} {V : StoV} {super : ByteArray} {p0 p1 p2 : Int} {k : Nat → Int} (hf : Fine r) (hok : SOk ⟨A, V⟩ a.rn on) (hV : V = fmV0 a.rn on p0 p1 p2 super) (ho : o.on = on) (hg : 1 ≤ p2 ∧ p2 ≤ 1099511627776) (hk : ∀ i, by8 (k i)) (hs : super.size = 64) (hz : (nw_ r 1 0).size = 64) :
 WK a A on ⟨fmR r super, o, V, ⟨k, ⟨0, 0, p2⟩, 0⟩⟩ (fun _ => z64) (fun _ => z64) 0 o.ts.length 0 (fun _ => z64) (fun _ => z64) := by
 refine ⟨wj_new hf hok hV ho hg hk hs, ?_⟩
 subst hV
 have h0 := fm_nw r super (.inl rfl)
 have h1 := fm_nw r super (.inr rfl)
 exact ⟨cB, cB, ⟨ds_new r super hz, h0, h1⟩, tc_bare (.inl rfl) h0, tc_bare (.inr rfl) h1⟩
end
end Cmt
namespace Cmt
open Go Ev Sha Aes Orc Node Rec Chn Jrn Cau Sto Srt Stg Wld Bgn Ivs Ctr Aut
open Rig (Fnc_takeR RigP Rg rgM readR writeR flushR setRegR z64 app_of tick comes mayE RigA crR)
open Tree (TreP TreA Tre treM TI Same getS setS updB ShJ)
theorem DR.ldI {r : RigP} {J : JrP} {d : Nat} {super : ByteArray} {R : List Rc} {C : Nat → ByteArray} (h : DR r J d super R C) (hd : d ≤ 1) (ha : J.area ≤ 1) (hs : super.size = 64) (hu : 1 ≤ J.used ∧ J.used ≤ 80) : LdI r super d J.area J.used R J := by
 refine ⟨hd, ha, hs, h.eq, h.hd, h.ok, h.used, hu.1, hu.2, ?_⟩
 have hus := h.used
 apply List.ext_getElem?
 intro i
 by_cases hi : i < J.used
 · have g := (h.jb i (by omega)).1
   unfold nws
   rw [List.getElem?_map, List.getElem?_range hi]
   show some (nw_ r d (1 + 80 * J.area + i)) = _
   rw [g, List.getElem?_eq_getElem (by omega)]; rfl
 · rw [List.getElem?_eq_none (by rw [nws_len]; omega), List.getElem?_eq_none (by omega)]
theorem chk_un : ∀ {last : Int} {l : List (Int × ByteArray)}, chk last l = true → (∀ p ∈ l, last < p.1) ∧ (l.map (·.1)).Nodup
 | _, [], _ => ⟨fun p hp => (by cases hp), List.nodup_nil⟩
 | last, q :: t, h => by
   rw [chk_cons, Bool.and_eq_true] at h
   have h1 := of_decide_eq_true h.1
   obtain ⟨i1, i2⟩ := chk_un h.2
   refine ⟨fun p hp => ?_, ?_⟩
   · rcases List.mem_cons.1 hp with rfl | hp
     · exact h1.1
     · have := i1 p hp; omega
   · rw [List.map_cons]
     refine List.nodup_cons.2 ⟨fun hm => ?_, i2⟩
     obtain ⟨p, hp, e⟩ := List.mem_map.1 hm
     have := i1 p hp
     omega
theorem nw_wrK_ov {d : Int} (hd : d = 0 ∨ d = 1) (j : Nat) : ∀ (l : List (Int × ByteArray)) (r : RigP), (l.map (·.1)).Nodup → (∀ p ∈ l, 161 ≤ p.1) → nw_ (wrK r d l) d j = (getS l j).getD (nw_ r d j)
 | [], r, _, _ => rfl
 | p :: t, r, hn, hk => by
   have hn' := List.nodup_cons.1 (show (p.1 :: t.map (·.1)).Nodup from hn)
   have hp := hk p List.mem_cons_self
   show nw_ (wrK (wrF r d p.1.toNat p.2) d t) d j = (if (j : Int) = p.1 then some p.2 else getS t j).getD _
   rw [nw_wrK_ov hd j t _ hn'.2 fun q hq => hk q (List.mem_cons_of_mem _ hq), nw_wr r d d p.1.toNat j p.2 hd hd]
   by_cases e : (j : Int) = p.1
   · rw [if_pos e, if_pos ⟨rfl, by omega⟩]
     have : getS t j = none := by
      cases e3 : getS t j with
      | none => rfl
      | some s => exact absurd (List.mem_map_of_mem (f := (·.1)) ((getS_mem hn'.2).1 e3)) (by rw [show ((j : Int), s).1 = p.1 from e]; exact hn'.1)
     rw [this]; rfl
   · rw [if_neg e, if_neg (by omega)]
theorem rc_keys {x : Rc} (h : chkE x.seq x.l = 0) : (x.l.map (·.1)).Nodup ∧ ∀ p ∈ x.l, 161 ≤ p.1 := by
 obtain ⟨h1, h2⟩ := chk_un (chkE_0 h).2.2
 exact ⟨h2, fun p hp => by have := h1 p hp; omega⟩
theorem nw_rpR {d : Int} (hd : d = 0 ∨ d = 1) (j : Nat) : ∀ (R : List Rc) (r : RigP), (∀ x ∈ R, chkE x.seq x.l = 0) → nw_ (rpR r d R) d j = rpl R (nw_ r d) j
 | [], r, _ => rfl
 | x :: t, r, h => by
   have hk := rc_keys (h x List.mem_cons_self)
   show nw_ (rpR (wrK r d x.l) d t) d j = rpl t (ovl x.l (nw_ r d)) j
   rw [nw_rpR hd j t _ fun y hy => h y (List.mem_cons_of_mem _ hy)]
   exact rpl_pt t (nw_wrK_ov hd j x.l r hk.1 hk.2)
theorem nw_rpO {d : Int} (hd : d = 0 ∨ d = 1) {d' : Int} (hd' : d' = 0 ∨ d' = 1) (hne : d' ≠ d) (j : Nat) : ∀ (R : List Rc) (r : RigP), (∀ x ∈ R, chkE x.seq x.l = 0) → nw_ (rpR r d R) d' j = nw_ r d' j
 | [], r, _ => rfl
 | x :: t, r, h => by
   have hk := rc_keys (h x List.mem_cons_self)
   show nw_ (rpR (wrK r d x.l) d t) d' j = _
   rw [nw_rpO hd hd' hne j t _ fun y hy => h y (List.mem_cons_of_mem _ hy)]
   rcases nw_wrK hd hd' j x.l r hk.2 with e | ⟨e, _⟩
   · exact e
   · exact absurd e hne
theorem SP.rp {super : ByteArray} {d : Int} (hd : d = 0 ∨ d = 1) : ∀ (R : List Rc) (r : RigP), (∀ x ∈ R, chkE x.seq x.l = 0) → SP r super → SP (rpR r d R) super
 | [], r, _, h => h
 | x :: t, r, hk, h => SP.rp hd t (wrK r d x.l) (fun y hy => hk y (List.mem_cons_of_mem _ hy)) (h.hm hd (rc_keys (hk x List.mem_cons_self)).2)
theorem SP.tks {super : ByteArray} {r : RigP} (h : SP r super) (k : Nat) : SP (tks r k) super := by
 have e : ∀ d j, nw_ (Stg.tks r k) d j = nw_ r d j := fun d j => nw_tks r d j k
 have f : ∀ d j, sf_ (Stg.tks r k) d j = sf_ r d j := fun d j => by unfold sf_; rw [(tks_s r k).dev]
 exact ⟨(e 0 0).trans h.n, (f 0 0).trans h.s, by rw [e]; exact h.n1, by rw [f]; exact h.s1⟩
structure ArO (super : ByteArray) (r5 : RigP) (y : RgV) (J0 J1 : JrP) (N : Int) (C0 C1 : Nat → ByteArray) (l : Nat) (x : Ax × Int) : Prop where
 e : x.2 = 0
 fine : Fine x.1.s.r
 dj : DJ super x.1.s.r x.1.j0 x.1.j1 x.1.y C0 C1
 j0 : JI x.1.j0 0 super N
 j1 : JI x.1.j1 1 super N
 rj : RJ x.1.y x.1.j0 x.1.j1
 ok : x.1.y.ok
 sm : x.1.y.at_ = true ∧ x.1.y.iv = y.iv ∧ x.1.y.ep = y.ep + 1
 dy : x.1.y.dirty = y.dirty ∧ x.1.y.mode = y.mode
 ts : x.1.s.ts.length ≤ l + 4
 rt0 : x.1.j0.root = J0.root
 rt1 : x.1.j1.root = J1.root
theorem nx_ok {y : RgV} (h : y.ok) (he : 0 ≤ y.ep ∧ y.ep ≤ 4294967294) : (RgV.nx y).ok := by
 unfold RgV.ok at h ⊢
 show Reg.RR y.a1 (y.ep + 1) y.iv y.ar0 y.ar1 y.u0 y.u1 y.dirty y.mode y.at_
 exact { h with e0 := by omega, e1 := by omega }
theorem ar_o {super : ByteArray} {r5 : RigP} {y : RgV} {J0 J1 : JrP} {N : Int} {C0 C1 : Nat → ByteArray} (hf : Fine r5) (hat : y.at_ = true) (hy : y.ok) (he : 0 ≤ y.ep ∧ y.ep ≤ 4294967294) (j0 : JI J0 0 super N) (j1 : JI J1 1 super N) (rj : RJ y J0 J1) (hN : N + 1 ≤ 4294967295)
 (sp : SP r5 super) (n0 : ∀ j, 161 ≤ j → j < 288 → nw_ r5 0 j = C0 j) (n1 : ∀ j, 161 ≤ j → j < 288 → nw_ r5 1 j = C1 j) (q : Ax) (h1 : q.s.r = r5) (h2 : q.j0 = J0) (h3 : q.j1 = J1) (h4 : q.y = RgV.nx y) :
 ArO super r5 y J0 J1 N C0 C1 q.s.ts.length (areas2G super q) := by
 have hq : q = ⟨⟨r5, q.s.ts⟩, J0, J1, RgV.nx y⟩ := by
  rw [← h1, ← h2, ← h3, ← h4]
 clear h1 h2 h3 h4
 generalize q.s.ts = ts at hq ⊢
 subst hq
 have hnx := nx_ok hy he
 obtain ⟨c, ec⟩ : ∃ c : Cx, c = ⟨⟨r5, ts⟩, J0, J1, ⟨0, J0.root, [], []⟩, ⟨1, J1.root, [], []⟩, RgV.nx y, RgV.nx y, RgV.nx y⟩ := ⟨_, rfl⟩
 have s0 : ShI ([] : List (Int × ByteArray)) := ⟨List.nodup_nil, fun p hp => by cases hp⟩
 have hci : CI super c N := by
  rw [ec]
  exact ⟨hf, hat, hnx, hnx, j0, j1, ⟨rj.a0, rj.r0, rj.u0, rj.a1, rj.r1, rj.u1⟩, s0, s0, Nat.zero_le _, Nat.zero_le _⟩
 have k := en_ok hci hN
 have he2 : enA2 super c = if (areas2G super ⟨⟨r5, ts⟩, J0, J1, RgV.nx y⟩).2 = 0 then ({ c with s := (areas2G super ⟨⟨r5, ts⟩, J0, J1, RgV.nx y⟩).1.s, j0 := (areas2G super ⟨⟨r5, ts⟩, J0, J1, RgV.nx y⟩).1.j0, j1 := (areas2G super ⟨⟨r5, ts⟩, J0, J1, RgV.nx y⟩).1.j1, is := (areas2G super ⟨⟨r5, ts⟩, J0, J1, RgV.nx y⟩).1.y }, 0)
  else ({ c with s := (areas2G super ⟨⟨r5, ts⟩, J0, J1, RgV.nx y⟩).1.s, j0 := (areas2G super ⟨⟨r5, ts⟩, J0, J1, RgV.nx y⟩).1.j0, j1 := (areas2G super ⟨⟨r5, ts⟩, J0, J1, RgV.nx y⟩).1.j1 }, (areas2G super ⟨⟨r5, ts⟩, J0, J1, RgV.nx y⟩).2) := by rw [ec]; rfl
 generalize areas2G super ⟨⟨r5, ts⟩, J0, J1, RgV.nx y⟩ = x at he2 ⊢
 have hx : x.2 = 0 := by
  by_cases hx : x.2 = 0
  · exact hx
  · rw [if_neg hx] at he2
    have := k.e
    rw [he2] at this; exact this
 rw [if_pos hx] at he2
 rw [he2] at k
 have kn := k.nw
 have kd := k.dk C0 C1
 have kt := k.ts
 have ks := k.sm
 have ky := k.dy
 have k0 := k.rt0
 have k1 := k.rt1
 have kc := k.ci
 rw [ec] at kn kd kt ks ky k0 k1
 dsimp only at kn kd kt ks ky k0 k1
 exact ⟨hx, kc.fine, ⟨kd sp n0 n1, fun j a b => (kn 0 (.inl rfl) j a).trans (n0 j a b), fun j a b => (kn 1 (.inr rfl) j a).trans (n1 j a b)⟩, kc.j0, kc.j1, kc.rj, kc.iok, ⟨kc.at_, ks.2.1, ks.2.2⟩, ky, kt, k0, k1⟩
end Cmt
end Go.Proofs.YtkjamonkohpcnaaGreat
