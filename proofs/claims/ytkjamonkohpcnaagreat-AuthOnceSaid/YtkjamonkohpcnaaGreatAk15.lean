/- Texts of this proof, merged. -/
import Derived.Test.YtkjamonkohpcnaaGreatAk14
import Derived.Test.YtkjamonkohpcnaaGreatAk6
set_option linter.unusedVariables false
set_option linter.unusedSimpArgs false
set_option linter.unusedSectionVars false
set_option maxRecDepth 100000
set_option maxHeartbeats 16000000
namespace Go.Proofs.YtkjamonkohpcnaaGreat
namespace Sto
open Go Ev Sha Aes Orc Node Rec Chn Jrn Cau
open Rig (RigP Rg rgM readR writeR flushR setRegR z64 app_of tick comes write_ mayE RigA)
structure StoA where
 sn : Nat
 jn0 : Nat
 jn1 : Nat
 tn0 : Nat
 tn1 : Nat
 a0 : Tree.TreA
 a1 : Tree.TreA
structure StoV where
 rn : Nat
 on : Nat
 g0 : Int
 g1 : Int
 g2 : Int
 super : ByteArray
 j0 : JrP
 j1 : JrP
 t0 : Tree.TreP
 t1 : Tree.TreP
 is : RgV
 next : RgV
 failed : Int
structure Sto where
 A : StoA
 V : StoV
def Sto.c (x : Sto) : StP := ⟨x.V.rn, x.V.on, x.V.g0, x.V.g1, x.V.g2, x.V.super, some ⟨x.A.jn0, 0, none⟩, some ⟨x.A.tn0, 0, none⟩, some ⟨x.A.jn1, 0, none⟩, some ⟨x.A.tn1, 0, none⟩, x.V.is, x.V.next, x.V.failed⟩
def stoR (x : Sto) : List Blk := jB x.A.jn0 x.V.rn x.V.on x.V.j0 :: (jB x.A.jn1 x.V.rn x.V.on x.V.j1 :: (Tree.treM x.A.tn0 ⟨x.A.a0, x.V.t0⟩ ++ Tree.treM x.A.tn1 ⟨x.A.a1, x.V.t1⟩))
def stoM (x : Sto) : List Blk := stB x.A.sn x.c :: stoR x
structure SOk (x : Sto) (r o : Nat) : Prop where
 rn : x.V.rn = r
 on : x.V.on = o
 r0 : x.A.a0.rn = r
 o0 : x.A.a0.on = o
 r1 : x.A.a1.rn = r
 o1 : x.A.a1.on = o
noncomputable def fmV0 (rn on : Nat) (g0 g1 g2 : Int) (super : ByteArray) : StoV :=
 ⟨rn, on, g0, g1, g2, super, frJ super 0 0, frJ super 1 0, ⟨0, (bare 6).2, [], []⟩, ⟨1, (bare 6).2, [], []⟩, fmV super, fmV super, 0⟩
def sz (rn on : Nat) (g0 g1 g2 : Int) (super : ByteArray) : List Value := [pt rn, pt on, .int .i64 g0, .int .i64 g1, .int .i64 g2, .string super, .pointer none, .pointer none, .pointer none, .pointer none] ++
 (List.replicate 64 (Value.int .u8 0) ++ [.int .i64 0, .int .i64 0, .int .i64 0, .int .i64 0, .int .i64 0, .int .i64 0, .int .i64 0, .int .i64 0, .bool false] ++ (List.replicate 64 (Value.int .u8 0) ++ [.int .i64 0, .int .i64 0, .int .i64 0, .int .i64 0, .int .i64 0, .int .i64 0, .int .i64 0, .int .i64 0, .bool false] ++ [.int .i64 0]))
def st0 (rn on : Nat) (g0 g1 g2 : Int) (super : ByteArray) : StP := ⟨rn, on, g0, g1, g2, super, none, none, none, none, rgT, rg0, 0⟩
theorem st0_e (rn on : Nat) (g0 g1 g2 : Int) (super : ByteArray) : (sz rn on g0 g1 g2 super).take 10 ++ regC rgT ++ (sz rn on g0 g1 g2 super).drop (10 + 73) = stC (st0 rn on g0 g1 g2 super) := rfl
def zz : List Value := List.replicate 64 (Value.int .u8 0) ++ [.int .i64 0, .int .i64 0, .int .i64 0, .int .i64 0, .int .i64 0, .int .i64 0, .int .i64 0, .int .i64 0, .bool false]
theorem rgT_b : zz.take 72 ++ [Value.bool true] ++ zz.drop (72 + 1) = regC rgT := rfl
attribute [local irreducible] dgV D jC wrF rcC stC regC flF srF bare BareT frR frT frA frJ fmV RgV.lay fmR fmT
theorem caught_ret {f : FuncId} {cs : List Value} {A : List Blk} {v : Value} {Q : List Blk → Prop} (hg : Fnc Tryz.prog f (([] ++ []) ++ cs) A (fun e M => Q M ∧ e = .returned v)) :
 Fnc Tryz.prog 90 [.func (.func f) #[] cs.toArray] A (fun e M => Q M ∧ e = .returned (.int .i64 0)) := by
 refine Fnc_mono (caught_ f [] cs A (fun q M => q = none ∧ Q M) (Fnc_mono hg ?_)) ?_
 · rintro e M ⟨h1, h2⟩
   exact ⟨none, ⟨rfl, h1⟩, _, h2⟩
 · rintro e M ⟨q, ⟨rfl, h1⟩, he⟩
   exact ⟨h1, he⟩
def fmP (g : Rg) (o : Orc) (sn c4 c10 c12 : Nat) (x : StP) (M : List Blk) : Prop :=
 ∃ (jn0 tn0 jn1 tn1 : Nat) (a0 a1 : Tree.TreA) (o' : Orc), a0.rn = x.rn ∧ a0.on = x.on ∧ a1.rn = x.rn ∧ a1.on = x.on ∧ o'.on = o.on ∧ o'.ts = fmT o.ts x.super ∧
  M = rgM ⟨g.a, fmR g.r x.super⟩ ++ (orcM o' ++ (jB jn0 g.a.rn o.on (frJ x.super 0 0) :: (Tree.treM tn0 ⟨a0, ⟨0, (bare 6).2, [], []⟩⟩ ++ (jB jn1 g.a.rn o.on (frJ x.super 1 0) :: (Tree.treM tn1 ⟨a1, ⟨1, (bare 6).2, [], []⟩⟩ ++
    [stB sn (fmS x x.super jn0 tn0 jn1 tn1 (fmV x.super)), ⟨c4, .cells [pt g.a.rn] 35⟩, ⟨c10, .cells [.string x.super] 9⟩, ⟨c12, .cells [pt sn] 37⟩])))))
theorem format1E (g : Rg) (o : Orc) (sn c4 c10 c12 : Nat) (x : StP) (hf : Fine g.r) (hrn : x.rn = g.a.rn) (hon : x.on = o.on) (hat : x.is.at_ = true) (hs : x.super.size = 64) (hb : o.ts.length ≤ 1099511600000) :
 Fnc Tryz.prog 90 [.func (.func 91) #[] #[pt c4, pt c10, pt c12]] (rgM g ++ (orcM o ++ [stB sn x, ⟨c4, .cells [pt g.a.rn] 35⟩, ⟨c10, .cells [.string x.super] 9⟩, ⟨c12, .cells [pt sn] 37⟩]))
  (fun e M => fmP g o sn c4 c10 c12 x M ∧ e = .returned (.int .i64 0)) := by
 refine caught_ret (cs := [pt c4, pt c10, pt c12]) (v := .tuple #[]) (Fnc_mono (format1 g o sn c4 c10 c12 x hf hrn hon hat hs hb) ?_)
 rintro e M ⟨jn0, tn0, jn1, tn1, a0, a1, o', b1, b2, b3, b4, b5, b6, b7, b8⟩
 exact ⟨⟨jn0, tn0, jn1, tn1, a0, a1, o', b1, b2, b3, b4, b5, b6, b8⟩, b7⟩
theorem format_ (g : Rg) (o : Orc) (g0 g1 g2 : Int) (check : ByteArray) (hf : Fine g.r) (hR : Geom.Right g0 g1 g2) (hc : check.size = 32) (hb : o.ts.length ≤ 1099511600000) :
 Fnc Tryz.prog 42 [pt g.a.rn, pt o.on, .agg #[.int .i64 g0, .int .i64 g1, .int .i64 g2], .string check] (rgM g ++ orcM o)
  (fun e A => ∃ (s : Sto) (o' : Orc), o'.on = o.on ∧ o'.ts = fmT o.ts (Geom.supS g0 g1 g2 check) ∧ s.V = fmV0 g.a.rn o.on g0 g1 g2 (Geom.supS g0 g1 g2 check) ∧ SOk s g.a.rn o.on ∧ e = .returned (.tuple #[pt s.A.sn, .int .i64 0]) ∧
    A = rgM ⟨g.a, fmR g.r (Geom.supS g0 g1 g2 check)⟩ ++ (orcM o' ++ stoM s)) := by
 have hsup := Geom.super g0 g1 g2 check (by omega)
 rw [show Geom.superS g0 g1 g2 check = Geom.supS g0 g1 g2 check by unfold Geom.superS; rw [if_pos ⟨hR, hc⟩], show Geom.superE g0 g1 g2 check = 0 by unfold Geom.superE; rw [if_pos ⟨hR, hc⟩]] at hsup
 have hss : (Geom.supS g0 g1 g2 check).size = 64 := by unfold Geom.supS; rw [ByteArray.size_append, Ev.str_size, Geom.headL_length, hc]
 obtain ⟨super, esu⟩ : ∃ s, s = Geom.supS g0 g1 g2 check := ⟨_, rfl⟩
 rw [← esu] at hsup hss ⊢
 have hcl := fun sn c4 c10 c12 => format1E g o sn c4 c10 c12 (st0 g.a.rn o.on g0 g1 g2 super) hf rfl rfl rfl hss hb
 refine fn_intro Tryz.func42 (by kernel_rfl) ?_
 repeat' ((conv => whnf); first
  | refine call_val hsup ?_ | (refine bld_cons (vs := [_]) (cs1 := regC rgT) rfl rfl rfl (Nat.le_of_ble_eq_true rfl) rgT_b ?_; refine bld_nil ?_) | (refine bld_cons (vs := [_]) rfl rfl rfl (Nat.le_of_ble_eq_true rfl) rfl ?_; refine bld_cons (vs := [_]) rfl rfl rfl (Nat.le_of_ble_eq_true rfl) rfl ?_; refine bld_cons (vs := [_, _, _]) rfl rfl rfl (Nat.le_of_ble_eq_true rfl) rfl ?_; refine bld_cons (vs := [_]) rfl rfl rfl (Nat.le_of_ble_eq_true rfl) rfl ?_; refine bld_cons (vs := regC rgT) (cs1 := stC (st0 g.a.rn o.on g0 g1 g2 super)) rfl rfl (regC_len _) (Nat.le_of_ble_eq_true rfl) (st0_e _ _ _ _ _ _) ?_; refine bld_nil ?_) | refine force_of ?_ | refine draw_any 10 [(0, true), (1, false), (2, true), (3, true), (4, false), (5, true), (6, true), (7, false)] [⟨n, _⟩] rfl (by kernel_rfl) (kept_of (.cons takeC .nil) ?_) | refine kept_of (.cons takeC .nil) ?_ | refine fld1 ?_ | refine ldN_row _ stC_is (regC_len _) ?_ | (refine need ?_ ?_; exact regC_len _) | refine st_nx ?_ | refine nw_row (cs' := stC (st0 g.a.rn o.on g0 g1 g2 super)) rfl (fun sn => ?_) | (refine call_g (hcl sn _ _ _) (.grp takeG (.grp takeG (.blk takeC (.blk takeC (.blk takeC (.blk takeC .nil)))))) (fun e A' hq => ?_); obtain ⟨⟨jn0, tn0, jn1, tn1, a0, a1, o1, b1, b2, b3, b4, b5, b6, b7⟩, b8⟩ := hq; subst b7; subst b8) | refine ld1_lit ?_ | refine ldN_lit ?_ | refine nw (fun n => ?_) | refine st_lit rfl ?_ | refine need (by first | rfl | omega) ?_ | (refine ifs (fun h => ?_) (fun h => ?_) <;> try (exfalso; first | omega | with_reducible first | contradiction | exact h rfl)))
 all_goals (conv => whnf)
 all_goals exact fin_g (A := rgM ⟨g.a, _⟩ ++ (orcM o1 ++ (⟨sn, _⟩ :: (⟨jn0, _⟩ :: (⟨jn1, _⟩ :: (Tree.treM tn0 ⟨a0, _⟩ ++ Tree.treM tn1 ⟨a1, _⟩)))))) (.grp takeG (.grp takeG (.blk takeC (.blk takeC (.blk takeC (.grp takeG (.one takeG))))))) ⟨⟨⟨sn, jn0, jn1, tn0, tn1, a0, a1⟩, fmV0 g.a.rn o.on g0 g1 g2 super⟩, o1, b5, b6, rfl, ⟨rfl, rfl, b1, b2, b3, b4⟩, rfl, rfl⟩
end Sto
namespace Sto
open Go Ev Sha Aes Orc Node Rec Chn Jrn Cau
open Rig (RigP Rg rgM readR writeR flushR setRegR z64 app_of tick comes write_ mayE RigA)
attribute [local irreducible] dgV D jC wrF rcC stC regC flF srF bare BareT frR frT frA frJ fmV RgV.lay fmR fmT
theorem failed_ (sn : Nat) (x : StP) (h : x.failed = 0) : Fnc Tryz.prog 13 [pt sn] [stB sn x] (Ret (.int .i64 0) [stB sn x]) := by
 have hf := stC_f (x := x)
 rw [h] at hf
 refine fn_intro Tryz.func13 (by kernel_rfl) ?_
 repeat' ((conv => whnf); first
  | refine ld1_row hf ?_ | (refine ifs (fun h => ?_) (fun h => ?_) <;> try (exfalso; first | omega | with_reducible first | contradiction | exact h rfl)))
 all_goals (conv => whnf)
 all_goals exact fin_all ⟨rfl, rfl⟩
def failE (e f : Int) : Int := if e = 10 ∨ e = 11 ∨ e = 12 then e else f
theorem end_ (sn : Nat) (x : StP) (e : Int) : Fnc Tryz.prog 115 [pt sn, .int .i64 e] [stB sn x] (Ret (.int .i64 e) [stB sn { x with failed := failE e x.failed }]) := by
 refine fn_intro Tryz.func115 (by kernel_rfl) ?_
 repeat' ((conv => whnf); first
  | refine st_f ?_ | refine need (by first | rfl | omega) ?_ | (refine ifs (fun h => ?_) (fun h => ?_) <;> try (exfalso; first | omega | with_reducible first | contradiction | exact h rfl)))
 all_goals (conv => whnf)
 all_goals first
  | (rw [show failE e x.failed = e by unfold failE; rw [if_pos (by omega)]]; exact fin_all ⟨rfl, rfl⟩) | (rw [show failE e x.failed = x.failed by unfold failE; rw [if_neg (by omega)]]; exact fin_all ⟨rfl, rfl⟩)
theorem run_ (sn : Nat) (x : StP) (f : FuncId) (cs : List Value) (R : List Blk) (Q : Option Int → StP → List Blk → Prop) (h : x.failed = 0)
 (hg : Fnc Tryz.prog f (([] ++ []) ++ cs) (stB sn x :: R) (Cau.Ends fun o M => ∃ y S, Q o y S ∧ M = stB sn y :: S)) :
 Fnc Tryz.prog 57 [pt sn, .func (.func f) #[] cs.toArray] (stB sn x :: R)
  (fun e M => ∃ o y S, Q o y S ∧ e = .returned (.int .i64 (o.getD 0)) ∧ M = stB sn { y with failed := failE (o.getD 0) y.failed } :: S) := by
 have h1 := failed_ sn x h
 have h2 := caught_ f [] cs (stB sn x :: R) _ hg
 have h3 := fun y e => end_ sn y e
 refine fn_intro Tryz.func57 (by kernel_rfl) ?_
 repeat' ((conv => whnf); first
  | refine call_gr h1 (.blk takeC .nil) ?_ | (refine call_g h2 takesG_all (fun e A' hq => ?_); obtain ⟨q, ⟨y, S, hQ, hM⟩, he⟩ := hq; subst hM; subst he) | refine call_gr (h3 _ _) (.blk takeC .nil) ?_ | (refine ifs (fun h => ?_) (fun h => ?_) <;> try (exfalso; first | omega | with_reducible first | contradiction | exact h rfl)))
 all_goals (conv => whnf)
 all_goals rw [List.append_nil]
 all_goals exact fin_all ⟨q, y, S, hQ, rfl, rfl⟩
theorem tree_0 (sn : Nat) (x : StP) : Fnc Tryz.prog 99 [pt sn, .int .i64 0] [stB sn x] (Ret (.pointer x.t0) [stB sn x]) := by
 refine fn_intro Tryz.func99 (by kernel_rfl) ?_
 repeat' ((conv => whnf); first
  | refine nv_eq (a := 6) rfl ?_ | refine ld1_row stC_7 ?_ | refine need (by first | rfl | omega) ?_ | (refine ifs (fun h => ?_) (fun h => ?_) <;> try (exfalso; first | omega | with_reducible first | contradiction | exact h rfl)))
 all_goals (conv => whnf)
 all_goals exact fin_all ⟨rfl, rfl⟩
theorem tree_1 (sn : Nat) (x : StP) (h : x.is.at_ = true) : Fnc Tryz.prog 99 [pt sn, .int .i64 1] [stB sn x] (Ret (.pointer x.t1) [stB sn x]) := by
 have hat := stC_at (x := x)
 rw [h] at hat
 refine fn_intro Tryz.func99 (by kernel_rfl) ?_
 repeat' ((conv => whnf); first
  | refine nv_eq (a := 8) rfl ?_ | refine ld1_row stC_9 ?_ | refine ld1_row hat ?_ | refine need (by first | rfl | omega) ?_ | (refine ifs (fun h => ?_) (fun h => ?_) <;> try (exfalso; first | omega | with_reducible first | contradiction | exact h rfl)))
 all_goals (conv => whnf)
 all_goals exact fin_all ⟨rfl, rfl⟩
theorem tree_2 (sn : Nat) (x : StP) (d : Int) (h : d ≠ 0 ∧ d ≠ 1) : Fnc Tryz.prog 99 [pt sn, .int .i64 d] [] (fun e A => e = .panicked (pe 2) ∧ A = []) := by
 obtain ⟨h0, h1⟩ := h
 refine fn_intro Tryz.func99 (by kernel_rfl) ?_
 repeat' ((conv => whnf); first
  | (refine ifs (fun h => ?_) (fun h => ?_) <;> try (exfalso; first | omega | with_reducible first | contradiction | exact h rfl)))
 all_goals (conv => whnf)
 all_goals exact fin_nil ⟨rfl, rfl⟩
theorem room_ok (tn : Nat) (x : Tree.Tre) (h : x.t.sheet.length ≤ 57) : Fnc Tryz.prog 98 [pt tn] (Tree.treM tn x) (Ret (pt tn) (Tree.treM tn x)) := by
 have h1 := Tree.tsheet tn x
 have h2 := Tree.slen x.a.sn x.a.mn x.t.sheet
 refine fn_intro Tryz.func98 (by kernel_rfl) ?_
 repeat' ((conv => whnf); first
  | refine call_gr h1 (.one takeG) ?_ | (unfold Tree.treM; refine call_gr h2 (.blk takeC (.blk takeC .nil)) ?_) | (refine ifs (fun h => ?_) (fun h => ?_) <;> try (exfalso; first | omega | with_reducible first | contradiction | exact h rfl)))
 all_goals (conv => whnf)
 all_goals exact fin_g (A := [⟨tn, _⟩, ⟨x.a.sn, _⟩, ⟨x.a.mn, _⟩, ⟨x.a.kn, _⟩]) (.blk takeC (.blk takeC (.blk takeC (.blk takeC .nil)))) ⟨rfl, rfl⟩
theorem room_no (tn : Nat) (x : Tree.Tre) (h : 57 < x.t.sheet.length) : Fnc Tryz.prog 98 [pt tn] (Tree.treM tn x) (fun e A => e = .panicked (pe 9) ∧ A = Tree.treM tn x) := by
 have h1 := Tree.tsheet tn x
 have h2 := Tree.slen x.a.sn x.a.mn x.t.sheet
 refine fn_intro Tryz.func98 (by kernel_rfl) ?_
 repeat' ((conv => whnf); first
  | refine call_gr h1 (.one takeG) ?_ | (unfold Tree.treM; refine call_gr h2 (.blk takeC (.blk takeC .nil)) ?_) | (refine ifs (fun h => ?_) (fun h => ?_) <;> try (exfalso; first | omega | with_reducible first | contradiction | exact h rfl)))
 all_goals (conv => whnf)
 all_goals exact fin_g (A := [⟨tn, _⟩, ⟨x.a.sn, _⟩, ⟨x.a.mn, _⟩, ⟨x.a.kn, _⟩]) (.blk takeC (.blk takeC (.blk takeC (.blk takeC .nil)))) ⟨rfl, rfl⟩
end Sto
namespace Sto
open Go Ev Sha Aes Orc Node Rec Chn Jrn Cau
open Rig (Fnc_takeR RigP Rg rgM readR writeR flushR setRegR z64 app_of tick comes write_ mayE RigA)
open Tree (TreP TreA Tre treM getT putT GetR PutR)
noncomputable def getA (r : RigP) (ts : List ByteArray) (t : TreP) (leaf : Int) : GetR := if 0 ≤ leaf ∧ leaf < 64 then getT r ts t leaf.toNat else ⟨r, ts, t, ByteArray.empty, false, 3⟩
noncomputable def putA (r : RigP) (ts : List ByteArray) (t : TreP) (leaf : Int) (b : ByteArray) : PutR :=
 if 0 ≤ leaf ∧ leaf < 64 then (if b.size = 64 then putT r ts t leaf.toNat b else ⟨r, ts, t, 6⟩) else ⟨r, ts, t, 3⟩
attribute [local irreducible] dgV D jC wrF rcC stC regC flF srF bare BareT frR frT frA frJ fmV RgV.lay fmR fmT getT putT Tree.wyC
theorem tget_no (tn : Nat) (leaf : Int) (h : ¬ (0 ≤ leaf ∧ leaf < 64)) : Fnc Tryz.prog 102 [pt tn, .int .i64 leaf] [] (Ret (.tuple #[.string ByteArray.empty, .bool false, .int .i64 3]) []) := by
 have hz := Tree.wyC_z
 have hdown := Tree.tdown_no tn leaf h
 refine fn_intro Tryz.func102 (by kernel_rfl) ?_
 repeat' ((conv => whnf); first
  | refine call_val hdown ?_ | refine nw_row hz (fun n => ?_) | refine force_of ?_ | refine need (Tree.wyC_len _ _) ?_ | refine Tree.st_way rfl ?_ | refine ld1_lit ?_ | refine nw (fun n => ?_) | (refine ifs (fun h => ?_) (fun h => ?_) <;> try (exfalso; first | omega | with_reducible first | contradiction | exact h rfl)))
 all_goals (conv => whnf)
 all_goals exact fin_nil ⟨rfl, rfl⟩
theorem tgetA (g : Rg) (o : Orc) (tn : Nat) (a : TreA) (t : TreP) (leaf : Int) (hrn : a.rn = g.a.rn) (hon : a.on = o.on) (hb : o.ts.length ≤ 1099511610000) :
 Fnc Tryz.prog 102 [pt tn, .int .i64 leaf] (rgM g ++ (orcM o ++ treM tn ⟨a, t⟩))
  (RetO o (getA g.r o.ts t leaf).ts (fun o' => rgM ⟨g.a, (getA g.r o.ts t leaf).r⟩ ++ (orcM o' ++ treM tn ⟨a, (getA g.r o.ts t leaf).t⟩)) (.tuple #[.string (getA g.r o.ts t leaf).s, .bool (getA g.r o.ts t leaf).is, .int .i64 (getA g.r o.ts t leaf).e])) := by
 by_cases h : 0 ≤ leaf ∧ leaf < 64
 · have := Tree.tget g o tn a t leaf.toNat (by omega) hrn hon (by omega)
   rw [show ((leaf.toNat : Nat) : Int) = leaf by omega] at this
   unfold getA
   rw [if_pos h]
   exact this
 · unfold getA
   rw [if_neg h]
   refine Fnc_mono (Fnc_takeR (A := []) (tget_no tn leaf h) .nil) fun e M ⟨h1, h2⟩ => ⟨o, rfl, rfl, h2, h1⟩
theorem tputA (g : Rg) (o : Orc) (tn : Nat) (a : TreA) (t : TreP) (leaf : Int) (b : ByteArray) (hrn : a.rn = g.a.rn) (hon : a.on = o.on) (hb : o.ts.length ≤ 1099511610000) :
 Fnc Tryz.prog 100 [pt tn, .int .i64 leaf, .string b] (rgM g ++ (orcM o ++ treM tn ⟨a, t⟩))
  (RetO o (putA g.r o.ts t leaf b).ts (fun o' => rgM ⟨g.a, (putA g.r o.ts t leaf b).r⟩ ++ (orcM o' ++ treM tn ⟨a, (putA g.r o.ts t leaf b).t⟩)) (.int .i64 (putA g.r o.ts t leaf b).e)) := by
 by_cases h : 0 ≤ leaf ∧ leaf < 64
 · have e : ((leaf.toNat : Nat) : Int) = leaf := by omega
   unfold putA
   rw [if_pos h]
   by_cases hs : b.size = 64
   · have := Tree.tput g o tn a t leaf.toNat b (by omega) hs hrn hon hb
     rw [e] at this
     rw [if_pos hs]
     exact this
   · have := Tree.tput_form tn leaf.toNat b (by omega) hs
     rw [e] at this
     rw [if_neg hs]
     refine Fnc_mono (Fnc_takeR (A := []) this .nil) fun e M ⟨h1, h2⟩ => ⟨o, rfl, rfl, h2, h1⟩
 · unfold putA
   rw [if_neg h]
   refine Fnc_mono (Fnc_takeR (A := []) (Tree.tput_no tn leaf b h) .nil) fun e M ⟨h1, h2⟩ => ⟨o, rfl, rfl, h2, h1⟩
theorem tclearA (g : Rg) (o : Orc) (tn : Nat) (a : TreA) (t : TreP) (leaf : Int) (hrn : a.rn = g.a.rn) (hon : a.on = o.on) (hb : o.ts.length ≤ 1099511610000) :
 Fnc Tryz.prog 175 [pt tn, .int .i64 leaf] (rgM g ++ (orcM o ++ treM tn ⟨a, t⟩))
  (RetO o (putA g.r o.ts t leaf z64).ts (fun o' => rgM ⟨g.a, (putA g.r o.ts t leaf z64).r⟩ ++ (orcM o' ++ treM tn ⟨a, (putA g.r o.ts t leaf z64).t⟩)) (.int .i64 (putA g.r o.ts t leaf z64).e)) := by
 by_cases h : 0 ≤ leaf ∧ leaf < 64
 · have e : ((leaf.toNat : Nat) : Int) = leaf := by omega
   unfold putA
   rw [if_pos h, if_pos z64_size]
   have := Tree.tclear g o tn a t leaf.toNat (by omega) hrn hon hb
   rw [e] at this
   exact this
 · unfold putA
   rw [if_neg h]
   refine Fnc_mono (Fnc_takeR (A := []) (Tree.tclear_no tn leaf h) .nil) fun e M ⟨h1, h2⟩ => ⟨o, rfl, rfl, h2, h1⟩
def mo (e : Int) : Option Int := if e = 0 then none else some e
theorem mo_get (e : Int) : (mo e).getD 0 = e := by
 unfold mo
 by_cases h : e = 0
 · rw [if_pos h, h]; rfl
 · rw [if_neg h]; rfl
theorem mo_0 {e : Int} (h : e = 0) : none = mo e := by unfold mo; rw [if_pos h]
theorem mo_1 {e : Int} (h : e ≠ 0) : some e = mo e := by unfold mo; rw [if_neg h]
theorem must_any (c : Int) : Fnc Tryz.prog 59 [.int .i64 c] [] (fun e A => A = [] ∧ ((c = 0 ∧ e = .returned (.tuple #[])) ∨ (c ≠ 0 ∧ e = .panicked (pe c)))) := by
 by_cases h : c = 0
 · subst h
   exact Fnc_mono must_ok fun e A ⟨h1, h2⟩ => ⟨h2, .inl ⟨rfl, h1⟩⟩
 · exact Fnc_mono (must_no c h) fun e A ⟨h1, h2⟩ => ⟨h2, .inr ⟨h, h1⟩⟩
def StoV.tr (V : StoV) (d : Int) : TreP := if d = 0 then V.t0 else V.t1
def StoV.setTr (V : StoV) (d : Int) (t : TreP) : StoV := if d = 0 then { V with t0 := t } else { V with t1 := t }
structure OutR where
 r : RigP
 ts : List ByteArray
 V : StoV
 s : ByteArray
 is : Bool
 e : Int
noncomputable def getO (r : RigP) (ts : List ByteArray) (V : StoV) (d leaf : Int) : OutR :=
 if d ≠ 0 ∧ d ≠ 1 then ⟨r, ts, V, ByteArray.empty, false, 2⟩
 else ⟨(getA r ts (V.tr d) leaf).r, (getA r ts (V.tr d) leaf).ts, V.setTr d (getA r ts (V.tr d) leaf).t, (getA r ts (V.tr d) leaf).s, (getA r ts (V.tr d) leaf).is, (getA r ts (V.tr d) leaf).e⟩
abbrev cSt (c sn : Nat) : Blk := ⟨c, .cells [pt sn] 37⟩
abbrev cIn (c : Nat) (z : Int) : Blk := ⟨c, .cells [.int .i64 z] 3⟩
abbrev cSr (c : Nat) (s : ByteArray) : Blk := ⟨c, .cells [.string s] 9⟩
abbrev cBo (c : Nat) (b : Bool) : Blk := ⟨c, .cells [.bool b] 4⟩
def ClQ (o : Orc) (q : OutR) (g : Rg) (s : Sto) (C : List Blk) (x : StP) : Option Int → StP → List Blk → Prop := fun oe y S => oe = mo q.e ∧ y = x ∧ ∃ o' : Orc, o'.on = o.on ∧ o'.ts = q.ts ∧ S = C ++ (rgM ⟨g.a, q.r⟩ ++ (orcM o' ++ stoR ⟨s.A, q.V⟩))
theorem get1 (g : Rg) (o : Orc) (s : Sto) (d leaf : Int) (c3 c4 c5 c9 c10 : Nat) (hs : SOk s g.a.rn o.on) (hat : s.V.is.at_ = true) (hb : o.ts.length ≤ 1099511610000) :
 Fnc Tryz.prog 101 (([] ++ []) ++ [pt c3, pt c4, pt c5, pt c9, pt c10]) (stB s.A.sn s.c :: ([cSt c3 s.A.sn, cIn c4 d, cIn c5 leaf, cSr c9 ByteArray.empty, cBo c10 false] ++ (rgM g ++ (orcM o ++ stoR s))))
  (Cau.Ends fun oe M => ∃ y S, ClQ o (getO g.r o.ts s.V d leaf) g s [cSt c3 s.A.sn, cIn c4 d, cIn c5 leaf, cSr c9 (getO g.r o.ts s.V d leaf).s, cBo c10 (getO g.r o.ts s.V d leaf).is] s.c oe y S ∧ M = stB s.A.sn y :: S) := by
 obtain ⟨A, V⟩ := s
 obtain ⟨hrn, hon, hr0, ho0, hr1, ho1⟩ := hs
 have ht0 := tree_0 A.sn (Sto.c ⟨A, V⟩)
 have ht1 := tree_1 A.sn (Sto.c ⟨A, V⟩) hat
 have hg0 := tgetA g o A.tn0 A.a0 V.t0 leaf hr0 ho0 hb
 have hg1 := tgetA g o A.tn1 A.a1 V.t1 leaf hr1 ho1 hb
 unfold stoR
 by_cases h2 : d ≠ 0 ∧ d ≠ 1
 · have e : getO g.r o.ts V d leaf = ⟨g.r, o.ts, V, ByteArray.empty, false, 2⟩ := by unfold getO; rw [if_pos h2]
   have ht2 := tree_2 A.sn (Sto.c ⟨A, V⟩) d h2
   rw [e]
   refine fn_intro Tryz.func101 (by kernel_rfl) ?_
   repeat' ((conv => whnf); first
    | refine draw_pan 1 (.take 0 (.take 1 (.take 3 (.only 2 (.only 4 (.take 5 (.take 6 (.take 7 (.take 8 (.only 9 (.only 10 (.take 11 .nil)))))))))))) [⟨c3, _⟩, ⟨c4, _⟩, ⟨c5, _⟩] rfl (by kernel_rfl) (fun _ _ _ _ h => h) (kept_of (.cons takeC (.cons takeC (.cons takeC .nil))) ?_) | refine fld1 ?_ | (refine call_g ht2 .nil (fun e A' hq => ?_); obtain ⟨p1, p2⟩ := hq; subst p1; subst p2))
   all_goals (conv => whnf)
   all_goals exact fin_all ⟨some 2, ⟨Sto.c ⟨A, V⟩, _, ⟨rfl, rfl, o, rfl, rfl, rfl⟩, rfl⟩, rfl⟩
 · have hd : d = 0 ∨ d = 1 := by omega
   rcases hd with rfl | rfl
   · obtain ⟨q, eq⟩ : ∃ q, q = getA g.r o.ts V.t0 leaf := ⟨_, rfl⟩
     have e : getO g.r o.ts V 0 leaf = ⟨q.r, q.ts, { V with t0 := q.t }, q.s, q.is, q.e⟩ := by rw [eq]; unfold getO; rw [if_neg h2]; rfl
     rw [← eq] at hg0
     rw [e]
     refine fn_intro Tryz.func101 (by kernel_rfl) ?_
     repeat' ((conv => whnf); first
      | refine draw_pan 1 (.take 0 (.take 1 (.take 3 (.only 2 (.only 4 (.take 5 (.take 6 (.take 7 (.take 8 (.only 9 (.only 10 (.take 11 .nil)))))))))))) [⟨c3, _⟩, ⟨c4, _⟩, ⟨c5, _⟩] rfl (by kernel_rfl) (fun _ _ _ _ h => h) (kept_of (.cons takeC (.cons takeC (.cons takeC .nil))) ?_) | refine kept_of (.cons takeC (.cons takeC (.cons takeC .nil))) ?_ | refine fld1 ?_ | refine call_gr ht0 (.blk takeC .nil) ?_ | refine call_go hg0 (.grp takeG (.grp takeG (.one takeG))) (fun o1 a1 a2 => ?_) | (refine call_g (must_any _) .nil (fun e A' hq => ?_); obtain ⟨p0, ⟨p1, p2⟩ | ⟨p1, p2⟩⟩ := hq <;> subst p2 <;> subst p0) | refine st_lit rfl ?_ | refine need (by first | rfl | omega) ?_)
     all_goals (conv => whnf)
     all_goals refine fin_g (A := stB A.sn _ :: (⟨c3, _⟩ :: ⟨c4, _⟩ :: ⟨c5, _⟩ :: ⟨c9, _⟩ :: ⟨c10, _⟩ :: (rgM ⟨g.a, _⟩ ++ (orcM o1 ++ (⟨A.jn0, _⟩ :: (⟨A.jn1, _⟩ :: (treM A.tn0 ⟨A.a0, _⟩ ++ treM A.tn1 ⟨A.a1, _⟩))))))) (.blk takeC (.blk takeC (.blk takeC (.blk takeC (.blk takeC (.blk takeC (.grp takeG (.grp takeG (.blk takeC (.blk takeC (.grp takeG (.one takeG)))))))))))) ?_
     · exact ⟨_, ⟨Sto.c ⟨A, V⟩, _, ⟨mo_0 p1, rfl, o1, a1, a2, rfl⟩, rfl⟩, _, rfl⟩
     · exact ⟨_, ⟨Sto.c ⟨A, V⟩, _, ⟨mo_1 p1, rfl, o1, a1, a2, rfl⟩, rfl⟩, rfl⟩
   · obtain ⟨q, eq⟩ : ∃ q, q = getA g.r o.ts V.t1 leaf := ⟨_, rfl⟩
     have e : getO g.r o.ts V 1 leaf = ⟨q.r, q.ts, { V with t1 := q.t }, q.s, q.is, q.e⟩ := by rw [eq]; unfold getO; rw [if_neg h2]; rfl
     rw [← eq] at hg1
     rw [e]
     refine fn_intro Tryz.func101 (by kernel_rfl) ?_
     repeat' ((conv => whnf); first
      | refine draw_pan 1 (.take 0 (.take 1 (.take 3 (.only 2 (.only 4 (.take 5 (.take 6 (.take 7 (.take 8 (.only 9 (.only 10 (.take 11 .nil)))))))))))) [⟨c3, _⟩, ⟨c4, _⟩, ⟨c5, _⟩] rfl (by kernel_rfl) (fun _ _ _ _ h => h) (kept_of (.cons takeC (.cons takeC (.cons takeC .nil))) ?_) | refine kept_of (.cons takeC (.cons takeC (.cons takeC .nil))) ?_ | refine fld1 ?_ | refine call_gr ht1 (.blk takeC .nil) ?_ | refine call_go hg1 (.grp takeG (.grp takeG (.one takeG))) (fun o1 a1 a2 => ?_) | (refine call_g (must_any _) .nil (fun e A' hq => ?_); obtain ⟨p0, ⟨p1, p2⟩ | ⟨p1, p2⟩⟩ := hq <;> subst p2 <;> subst p0) | refine st_lit rfl ?_ | refine need (by first | rfl | omega) ?_)
     all_goals (conv => whnf)
     all_goals refine fin_g (A := stB A.sn _ :: (⟨c3, _⟩ :: ⟨c4, _⟩ :: ⟨c5, _⟩ :: ⟨c9, _⟩ :: ⟨c10, _⟩ :: (rgM ⟨g.a, _⟩ ++ (orcM o1 ++ (⟨A.jn0, _⟩ :: (⟨A.jn1, _⟩ :: (treM A.tn0 ⟨A.a0, _⟩ ++ treM A.tn1 ⟨A.a1, _⟩))))))) (.blk takeC (.blk takeC (.blk takeC (.blk takeC (.blk takeC (.blk takeC (.grp takeG (.grp takeG (.blk takeC (.blk takeC (.grp takeG (.one takeG)))))))))))) ?_
     · exact ⟨_, ⟨Sto.c ⟨A, V⟩, _, ⟨mo_0 p1, rfl, o1, a1, a2, rfl⟩, rfl⟩, _, rfl⟩
     · exact ⟨_, ⟨Sto.c ⟨A, V⟩, _, ⟨mo_1 p1, rfl, o1, a1, a2, rfl⟩, rfl⟩, rfl⟩
noncomputable def putO (r : RigP) (ts : List ByteArray) (V : StoV) (d leaf : Int) (b : ByteArray) : OutR :=
 if d ≠ 0 ∧ d ≠ 1 then ⟨r, ts, V, ByteArray.empty, false, 2⟩
 else if 57 < (V.tr d).sheet.length then ⟨r, ts, V, ByteArray.empty, false, 9⟩
 else ⟨(putA r ts (V.tr d) leaf b).r, (putA r ts (V.tr d) leaf b).ts, V.setTr d (putA r ts (V.tr d) leaf b).t, ByteArray.empty, false, (putA r ts (V.tr d) leaf b).e⟩
theorem put1 (g : Rg) (o : Orc) (s : Sto) (d leaf : Int) (b : ByteArray) (c4 c5 c6 c7 : Nat) (hs : SOk s g.a.rn o.on) (hat : s.V.is.at_ = true) (hb : o.ts.length ≤ 1099511610000) :
 Fnc Tryz.prog 97 (([] ++ []) ++ [pt c4, pt c5, pt c6, pt c7]) (stB s.A.sn s.c :: ([cSt c4 s.A.sn, cIn c5 d, cIn c6 leaf, cSr c7 b] ++ (rgM g ++ (orcM o ++ stoR s))))
  (Cau.Ends fun oe M => ∃ y S, ClQ o (putO g.r o.ts s.V d leaf b) g s [cSt c4 s.A.sn, cIn c5 d, cIn c6 leaf, cSr c7 b] s.c oe y S ∧ M = stB s.A.sn y :: S) := by
 obtain ⟨A, V⟩ := s
 obtain ⟨hrn, hon, hr0, ho0, hr1, ho1⟩ := hs
 have ht0 := tree_0 A.sn (Sto.c ⟨A, V⟩)
 have ht1 := tree_1 A.sn (Sto.c ⟨A, V⟩) hat
 have hg0 := tputA g o A.tn0 A.a0 V.t0 leaf b hr0 ho0 hb
 have hg1 := tputA g o A.tn1 A.a1 V.t1 leaf b hr1 ho1 hb
 unfold stoR
 by_cases h2 : d ≠ 0 ∧ d ≠ 1
 · have e : putO g.r o.ts V d leaf b = ⟨g.r, o.ts, V, ByteArray.empty, false, 2⟩ := by unfold putO; rw [if_pos h2]
   have ht2 := tree_2 A.sn (Sto.c ⟨A, V⟩) d h2
   rw [e]
   refine fn_intro Tryz.func97 (by kernel_rfl) ?_
   repeat' ((conv => whnf); first
    | refine draw_pan 0 (.take 0 (.take 1 (.take 4 (.take 5 (.only 2 (.only 3 (.only 6 (.only 7 .nil)))))))) [⟨c4, _⟩, ⟨c5, _⟩, ⟨c6, _⟩, ⟨c7, _⟩] rfl (by kernel_rfl) (fun _ _ _ _ h => h) (kept_of (.cons takeC (.cons takeC (.cons takeC (.cons takeC .nil)))) ?_) | refine fld1 ?_ | (refine call_g ht2 .nil (fun e A' hq => ?_); obtain ⟨p1, p2⟩ := hq; subst p1; subst p2))
   all_goals (conv => whnf)
   all_goals exact fin_all ⟨some 2, ⟨Sto.c ⟨A, V⟩, _, ⟨rfl, rfl, o, rfl, rfl, rfl⟩, rfl⟩, rfl⟩
 · have hd : d = 0 ∨ d = 1 := by omega
   rcases hd with rfl | rfl
   · by_cases hrm : 57 < V.t0.sheet.length
     · have e : putO g.r o.ts V 0 leaf b = ⟨g.r, o.ts, V, ByteArray.empty, false, 9⟩ := by unfold putO; rw [if_neg h2]; rw [if_pos (show 57 < (V.tr 0).sheet.length from hrm)]
       have hroom := room_no A.tn0 ⟨A.a0, V.t0⟩ hrm
       rw [e]
       refine fn_intro Tryz.func97 (by kernel_rfl) ?_
       repeat' ((conv => whnf); first
        | refine draw_pan 0 (.take 0 (.take 1 (.take 4 (.take 5 (.only 2 (.only 3 (.only 6 (.only 7 .nil)))))))) [⟨c4, _⟩, ⟨c5, _⟩, ⟨c6, _⟩, ⟨c7, _⟩] rfl (by kernel_rfl) (fun _ _ _ _ h => h) (kept_of (.cons takeC (.cons takeC (.cons takeC (.cons takeC .nil)))) ?_) | refine kept_of (.cons takeC (.cons takeC (.cons takeC (.cons takeC .nil)))) ?_ | refine fld1 ?_ | refine call_gr ht0 (.blk takeC .nil) ?_ | (refine call_g hroom (.one takeG) (fun e A' hq => ?_); obtain ⟨p1, p2⟩ := hq; subst p1; subst p2))
       all_goals (conv => whnf)
       all_goals refine fin_g (A := stB A.sn _ :: (⟨c4, _⟩ :: ⟨c5, _⟩ :: ⟨c6, _⟩ :: ⟨c7, _⟩ :: (rgM ⟨g.a, _⟩ ++ (orcM o ++ (⟨A.jn0, _⟩ :: (⟨A.jn1, _⟩ :: (treM A.tn0 ⟨A.a0, _⟩ ++ treM A.tn1 ⟨A.a1, _⟩))))))) (.blk takeC (.blk takeC (.blk takeC (.blk takeC (.blk takeC (.grp takeG (.grp takeG (.blk takeC (.blk takeC (.grp takeG (.one takeG))))))))))) ?_
       all_goals exact ⟨some 9, ⟨Sto.c ⟨A, V⟩, _, ⟨rfl, rfl, o, rfl, rfl, rfl⟩, rfl⟩, rfl⟩
     · obtain ⟨q, eq⟩ : ∃ q, q = putA g.r o.ts V.t0 leaf b := ⟨_, rfl⟩
       have e : putO g.r o.ts V 0 leaf b = ⟨q.r, q.ts, { V with t0 := q.t }, ByteArray.empty, false, q.e⟩ := by rw [eq]; unfold putO; rw [if_neg h2]; rw [if_neg (show ¬ 57 < (V.tr 0).sheet.length from hrm)]; rfl
       have hroom := room_ok A.tn0 ⟨A.a0, V.t0⟩ (by show V.t0.sheet.length ≤ 57; omega)
       rw [← eq] at hg0
       rw [e]
       refine fn_intro Tryz.func97 (by kernel_rfl) ?_
       repeat' ((conv => whnf); first
        | refine draw_pan 0 (.take 0 (.take 1 (.take 4 (.take 5 (.only 2 (.only 3 (.only 6 (.only 7 .nil)))))))) [⟨c4, _⟩, ⟨c5, _⟩, ⟨c6, _⟩, ⟨c7, _⟩] rfl (by kernel_rfl) (fun _ _ _ _ h => h) (kept_of (.cons takeC (.cons takeC (.cons takeC (.cons takeC .nil)))) ?_) | refine kept_of (.cons takeC (.cons takeC (.cons takeC (.cons takeC .nil)))) ?_ | refine fld1 ?_ | refine call_gr ht0 (.blk takeC .nil) ?_ | refine call_gr hroom (.one takeG) ?_ | refine call_go hg0 (.grp takeG (.grp takeG (.one takeG))) (fun o1 a1 a2 => ?_) | (refine call_g (must_any _) .nil (fun e A' hq => ?_); obtain ⟨p0, ⟨p1, p2⟩ | ⟨p1, p2⟩⟩ := hq <;> subst p2 <;> subst p0))
       all_goals (conv => whnf)
       all_goals refine fin_g (A := stB A.sn _ :: (⟨c4, _⟩ :: ⟨c5, _⟩ :: ⟨c6, _⟩ :: ⟨c7, _⟩ :: (rgM ⟨g.a, _⟩ ++ (orcM o1 ++ (⟨A.jn0, _⟩ :: (⟨A.jn1, _⟩ :: (treM A.tn0 ⟨A.a0, _⟩ ++ treM A.tn1 ⟨A.a1, _⟩))))))) (.blk takeC (.blk takeC (.blk takeC (.blk takeC (.blk takeC (.grp takeG (.grp takeG (.blk takeC (.blk takeC (.grp takeG (.one takeG))))))))))) ?_
       · exact ⟨_, ⟨Sto.c ⟨A, V⟩, _, ⟨mo_0 p1, rfl, o1, a1, a2, rfl⟩, rfl⟩, _, rfl⟩
       · exact ⟨_, ⟨Sto.c ⟨A, V⟩, _, ⟨mo_1 p1, rfl, o1, a1, a2, rfl⟩, rfl⟩, rfl⟩
   · by_cases hrm : 57 < V.t1.sheet.length
     · have e : putO g.r o.ts V 1 leaf b = ⟨g.r, o.ts, V, ByteArray.empty, false, 9⟩ := by unfold putO; rw [if_neg h2]; rw [if_pos (show 57 < (V.tr 1).sheet.length from hrm)]
       have hroom := room_no A.tn1 ⟨A.a1, V.t1⟩ hrm
       rw [e]
       refine fn_intro Tryz.func97 (by kernel_rfl) ?_
       repeat' ((conv => whnf); first
        | refine draw_pan 0 (.take 0 (.take 1 (.take 4 (.take 5 (.only 2 (.only 3 (.only 6 (.only 7 .nil)))))))) [⟨c4, _⟩, ⟨c5, _⟩, ⟨c6, _⟩, ⟨c7, _⟩] rfl (by kernel_rfl) (fun _ _ _ _ h => h) (kept_of (.cons takeC (.cons takeC (.cons takeC (.cons takeC .nil)))) ?_) | refine kept_of (.cons takeC (.cons takeC (.cons takeC (.cons takeC .nil)))) ?_ | refine fld1 ?_ | refine call_gr ht1 (.blk takeC .nil) ?_ | (refine call_g hroom (.one takeG) (fun e A' hq => ?_); obtain ⟨p1, p2⟩ := hq; subst p1; subst p2))
       all_goals (conv => whnf)
       all_goals refine fin_g (A := stB A.sn _ :: (⟨c4, _⟩ :: ⟨c5, _⟩ :: ⟨c6, _⟩ :: ⟨c7, _⟩ :: (rgM ⟨g.a, _⟩ ++ (orcM o ++ (⟨A.jn0, _⟩ :: (⟨A.jn1, _⟩ :: (treM A.tn0 ⟨A.a0, _⟩ ++ treM A.tn1 ⟨A.a1, _⟩))))))) (.blk takeC (.blk takeC (.blk takeC (.blk takeC (.blk takeC (.grp takeG (.grp takeG (.blk takeC (.blk takeC (.grp takeG (.one takeG))))))))))) ?_
       all_goals exact ⟨some 9, ⟨Sto.c ⟨A, V⟩, _, ⟨rfl, rfl, o, rfl, rfl, rfl⟩, rfl⟩, rfl⟩
     · obtain ⟨q, eq⟩ : ∃ q, q = putA g.r o.ts V.t1 leaf b := ⟨_, rfl⟩
       have e : putO g.r o.ts V 1 leaf b = ⟨q.r, q.ts, { V with t1 := q.t }, ByteArray.empty, false, q.e⟩ := by rw [eq]; unfold putO; rw [if_neg h2]; rw [if_neg (show ¬ 57 < (V.tr 1).sheet.length from hrm)]; rfl
       have hroom := room_ok A.tn1 ⟨A.a1, V.t1⟩ (by show V.t1.sheet.length ≤ 57; omega)
       rw [← eq] at hg1
       rw [e]
       refine fn_intro Tryz.func97 (by kernel_rfl) ?_
       repeat' ((conv => whnf); first
        | refine draw_pan 0 (.take 0 (.take 1 (.take 4 (.take 5 (.only 2 (.only 3 (.only 6 (.only 7 .nil)))))))) [⟨c4, _⟩, ⟨c5, _⟩, ⟨c6, _⟩, ⟨c7, _⟩] rfl (by kernel_rfl) (fun _ _ _ _ h => h) (kept_of (.cons takeC (.cons takeC (.cons takeC (.cons takeC .nil)))) ?_) | refine kept_of (.cons takeC (.cons takeC (.cons takeC (.cons takeC .nil)))) ?_ | refine fld1 ?_ | refine call_gr ht1 (.blk takeC .nil) ?_ | refine call_gr hroom (.one takeG) ?_ | refine call_go hg1 (.grp takeG (.grp takeG (.one takeG))) (fun o1 a1 a2 => ?_) | (refine call_g (must_any _) .nil (fun e A' hq => ?_); obtain ⟨p0, ⟨p1, p2⟩ | ⟨p1, p2⟩⟩ := hq <;> subst p2 <;> subst p0))
       all_goals (conv => whnf)
       all_goals refine fin_g (A := stB A.sn _ :: (⟨c4, _⟩ :: ⟨c5, _⟩ :: ⟨c6, _⟩ :: ⟨c7, _⟩ :: (rgM ⟨g.a, _⟩ ++ (orcM o1 ++ (⟨A.jn0, _⟩ :: (⟨A.jn1, _⟩ :: (treM A.tn0 ⟨A.a0, _⟩ ++ treM A.tn1 ⟨A.a1, _⟩))))))) (.blk takeC (.blk takeC (.blk takeC (.blk takeC (.blk takeC (.grp takeG (.grp takeG (.blk takeC (.blk takeC (.grp takeG (.one takeG))))))))))) ?_
       · exact ⟨_, ⟨Sto.c ⟨A, V⟩, _, ⟨mo_0 p1, rfl, o1, a1, a2, rfl⟩, rfl⟩, _, rfl⟩
       · exact ⟨_, ⟨Sto.c ⟨A, V⟩, _, ⟨mo_1 p1, rfl, o1, a1, a2, rfl⟩, rfl⟩, rfl⟩
theorem clear1 (g : Rg) (o : Orc) (s : Sto) (d leaf : Int) (c3 c4 c5 : Nat) (hs : SOk s g.a.rn o.on) (hat : s.V.is.at_ = true) (hb : o.ts.length ≤ 1099511610000) :
 Fnc Tryz.prog 174 (([] ++ []) ++ [pt c3, pt c4, pt c5]) (stB s.A.sn s.c :: ([cSt c3 s.A.sn, cIn c4 d, cIn c5 leaf] ++ (rgM g ++ (orcM o ++ stoR s))))
  (Cau.Ends fun oe M => ∃ y S, ClQ o (putO g.r o.ts s.V d leaf z64) g s [cSt c3 s.A.sn, cIn c4 d, cIn c5 leaf] s.c oe y S ∧ M = stB s.A.sn y :: S) := by
 obtain ⟨A, V⟩ := s
 obtain ⟨hrn, hon, hr0, ho0, hr1, ho1⟩ := hs
 have ht0 := tree_0 A.sn (Sto.c ⟨A, V⟩)
 have ht1 := tree_1 A.sn (Sto.c ⟨A, V⟩) hat
 have hg0 := tclearA g o A.tn0 A.a0 V.t0 leaf hr0 ho0 hb
 have hg1 := tclearA g o A.tn1 A.a1 V.t1 leaf hr1 ho1 hb
 unfold stoR
 by_cases h2 : d ≠ 0 ∧ d ≠ 1
 · have e : putO g.r o.ts V d leaf z64 = ⟨g.r, o.ts, V, ByteArray.empty, false, 2⟩ := by unfold putO; rw [if_pos h2]
   have ht2 := tree_2 A.sn (Sto.c ⟨A, V⟩) d h2
   rw [e]
   refine fn_intro Tryz.func174 (by kernel_rfl) ?_
   repeat' ((conv => whnf); first
    | refine draw_pan 0 (.take 0 (.take 1 (.take 4 (.only 2 (.only 3 (.only 5 (.only 6 .nil))))))) [⟨c3, _⟩, ⟨c4, _⟩, ⟨c5, _⟩] rfl (by kernel_rfl) (fun _ _ _ _ h => h) (kept_of (.cons takeC (.cons takeC (.cons takeC .nil))) ?_) | refine fld1 ?_ | (refine call_g ht2 .nil (fun e A' hq => ?_); obtain ⟨p1, p2⟩ := hq; subst p1; subst p2))
   all_goals (conv => whnf)
   all_goals exact fin_all ⟨some 2, ⟨Sto.c ⟨A, V⟩, _, ⟨rfl, rfl, o, rfl, rfl, rfl⟩, rfl⟩, rfl⟩
 · have hd : d = 0 ∨ d = 1 := by omega
   rcases hd with rfl | rfl
   · by_cases hrm : 57 < V.t0.sheet.length
     · have e : putO g.r o.ts V 0 leaf z64 = ⟨g.r, o.ts, V, ByteArray.empty, false, 9⟩ := by unfold putO; rw [if_neg h2]; rw [if_pos (show 57 < (V.tr 0).sheet.length from hrm)]
       have hroom := room_no A.tn0 ⟨A.a0, V.t0⟩ hrm
       rw [e]
       refine fn_intro Tryz.func174 (by kernel_rfl) ?_
       repeat' ((conv => whnf); first
        | refine draw_pan 0 (.take 0 (.take 1 (.take 4 (.only 2 (.only 3 (.only 5 (.only 6 .nil))))))) [⟨c3, _⟩, ⟨c4, _⟩, ⟨c5, _⟩] rfl (by kernel_rfl) (fun _ _ _ _ h => h) (kept_of (.cons takeC (.cons takeC (.cons takeC .nil))) ?_) | refine kept_of (.cons takeC (.cons takeC (.cons takeC .nil))) ?_ | refine fld1 ?_ | refine call_gr ht0 (.blk takeC .nil) ?_ | (refine call_g hroom (.one takeG) (fun e A' hq => ?_); obtain ⟨p1, p2⟩ := hq; subst p1; subst p2))
       all_goals (conv => whnf)
       all_goals refine fin_g (A := stB A.sn _ :: (⟨c3, _⟩ :: ⟨c4, _⟩ :: ⟨c5, _⟩ :: (rgM ⟨g.a, _⟩ ++ (orcM o ++ (⟨A.jn0, _⟩ :: (⟨A.jn1, _⟩ :: (treM A.tn0 ⟨A.a0, _⟩ ++ treM A.tn1 ⟨A.a1, _⟩))))))) (.blk takeC (.blk takeC (.blk takeC (.blk takeC (.grp takeG (.grp takeG (.blk takeC (.blk takeC (.grp takeG (.one takeG)))))))))) ?_
       all_goals exact ⟨some 9, ⟨Sto.c ⟨A, V⟩, _, ⟨rfl, rfl, o, rfl, rfl, rfl⟩, rfl⟩, rfl⟩
     · obtain ⟨q, eq⟩ : ∃ q, q = putA g.r o.ts V.t0 leaf z64 := ⟨_, rfl⟩
       have e : putO g.r o.ts V 0 leaf z64 = ⟨q.r, q.ts, { V with t0 := q.t }, ByteArray.empty, false, q.e⟩ := by rw [eq]; unfold putO; rw [if_neg h2]; rw [if_neg (show ¬ 57 < (V.tr 0).sheet.length from hrm)]; rfl
       have hroom := room_ok A.tn0 ⟨A.a0, V.t0⟩ (by show V.t0.sheet.length ≤ 57; omega)
       rw [← eq] at hg0
       rw [e]
       refine fn_intro Tryz.func174 (by kernel_rfl) ?_
       repeat' ((conv => whnf); first
        | refine draw_pan 0 (.take 0 (.take 1 (.take 4 (.only 2 (.only 3 (.only 5 (.only 6 .nil))))))) [⟨c3, _⟩, ⟨c4, _⟩, ⟨c5, _⟩] rfl (by kernel_rfl) (fun _ _ _ _ h => h) (kept_of (.cons takeC (.cons takeC (.cons takeC .nil))) ?_) | refine kept_of (.cons takeC (.cons takeC (.cons takeC .nil))) ?_ | refine fld1 ?_ | refine call_gr ht0 (.blk takeC .nil) ?_ | refine call_gr hroom (.one takeG) ?_ | refine call_go hg0 (.grp takeG (.grp takeG (.one takeG))) (fun o1 a1 a2 => ?_) | (refine call_g (must_any _) .nil (fun e A' hq => ?_); obtain ⟨p0, ⟨p1, p2⟩ | ⟨p1, p2⟩⟩ := hq <;> subst p2 <;> subst p0))
       all_goals (conv => whnf)
       all_goals refine fin_g (A := stB A.sn _ :: (⟨c3, _⟩ :: ⟨c4, _⟩ :: ⟨c5, _⟩ :: (rgM ⟨g.a, _⟩ ++ (orcM o1 ++ (⟨A.jn0, _⟩ :: (⟨A.jn1, _⟩ :: (treM A.tn0 ⟨A.a0, _⟩ ++ treM A.tn1 ⟨A.a1, _⟩))))))) (.blk takeC (.blk takeC (.blk takeC (.blk takeC (.grp takeG (.grp takeG (.blk takeC (.blk takeC (.grp takeG (.one takeG)))))))))) ?_
       · exact ⟨_, ⟨Sto.c ⟨A, V⟩, _, ⟨mo_0 p1, rfl, o1, a1, a2, rfl⟩, rfl⟩, _, rfl⟩
       · exact ⟨_, ⟨Sto.c ⟨A, V⟩, _, ⟨mo_1 p1, rfl, o1, a1, a2, rfl⟩, rfl⟩, rfl⟩
   · by_cases hrm : 57 < V.t1.sheet.length
     · have e : putO g.r o.ts V 1 leaf z64 = ⟨g.r, o.ts, V, ByteArray.empty, false, 9⟩ := by unfold putO; rw [if_neg h2]; rw [if_pos (show 57 < (V.tr 1).sheet.length from hrm)]
       have hroom := room_no A.tn1 ⟨A.a1, V.t1⟩ hrm
       rw [e]
       refine fn_intro Tryz.func174 (by kernel_rfl) ?_
       repeat' ((conv => whnf); first
        | refine draw_pan 0 (.take 0 (.take 1 (.take 4 (.only 2 (.only 3 (.only 5 (.only 6 .nil))))))) [⟨c3, _⟩, ⟨c4, _⟩, ⟨c5, _⟩] rfl (by kernel_rfl) (fun _ _ _ _ h => h) (kept_of (.cons takeC (.cons takeC (.cons takeC .nil))) ?_) | refine kept_of (.cons takeC (.cons takeC (.cons takeC .nil))) ?_ | refine fld1 ?_ | refine call_gr ht1 (.blk takeC .nil) ?_ | (refine call_g hroom (.one takeG) (fun e A' hq => ?_); obtain ⟨p1, p2⟩ := hq; subst p1; subst p2))
       all_goals (conv => whnf)
       all_goals refine fin_g (A := stB A.sn _ :: (⟨c3, _⟩ :: ⟨c4, _⟩ :: ⟨c5, _⟩ :: (rgM ⟨g.a, _⟩ ++ (orcM o ++ (⟨A.jn0, _⟩ :: (⟨A.jn1, _⟩ :: (treM A.tn0 ⟨A.a0, _⟩ ++ treM A.tn1 ⟨A.a1, _⟩))))))) (.blk takeC (.blk takeC (.blk takeC (.blk takeC (.grp takeG (.grp takeG (.blk takeC (.blk takeC (.grp takeG (.one takeG)))))))))) ?_
       all_goals exact ⟨some 9, ⟨Sto.c ⟨A, V⟩, _, ⟨rfl, rfl, o, rfl, rfl, rfl⟩, rfl⟩, rfl⟩
     · obtain ⟨q, eq⟩ : ∃ q, q = putA g.r o.ts V.t1 leaf z64 := ⟨_, rfl⟩
       have e : putO g.r o.ts V 1 leaf z64 = ⟨q.r, q.ts, { V with t1 := q.t }, ByteArray.empty, false, q.e⟩ := by rw [eq]; unfold putO; rw [if_neg h2]; rw [if_neg (show ¬ 57 < (V.tr 1).sheet.length from hrm)]; rfl
       have hroom := room_ok A.tn1 ⟨A.a1, V.t1⟩ (by show V.t1.sheet.length ≤ 57; omega)
       rw [← eq] at hg1
       rw [e]
       refine fn_intro Tryz.func174 (by kernel_rfl) ?_
       repeat' ((conv => whnf); first
        | refine draw_pan 0 (.take 0 (.take 1 (.take 4 (.only 2 (.only 3 (.only 5 (.only 6 .nil))))))) [⟨c3, _⟩, ⟨c4, _⟩, ⟨c5, _⟩] rfl (by kernel_rfl) (fun _ _ _ _ h => h) (kept_of (.cons takeC (.cons takeC (.cons takeC .nil))) ?_) | refine kept_of (.cons takeC (.cons takeC (.cons takeC .nil))) ?_ | refine fld1 ?_ | refine call_gr ht1 (.blk takeC .nil) ?_ | refine call_gr hroom (.one takeG) ?_ | refine call_go hg1 (.grp takeG (.grp takeG (.one takeG))) (fun o1 a1 a2 => ?_) | (refine call_g (must_any _) .nil (fun e A' hq => ?_); obtain ⟨p0, ⟨p1, p2⟩ | ⟨p1, p2⟩⟩ := hq <;> subst p2 <;> subst p0))
       all_goals (conv => whnf)
       all_goals refine fin_g (A := stB A.sn _ :: (⟨c3, _⟩ :: ⟨c4, _⟩ :: ⟨c5, _⟩ :: (rgM ⟨g.a, _⟩ ++ (orcM o1 ++ (⟨A.jn0, _⟩ :: (⟨A.jn1, _⟩ :: (treM A.tn0 ⟨A.a0, _⟩ ++ treM A.tn1 ⟨A.a1, _⟩))))))) (.blk takeC (.blk takeC (.blk takeC (.blk takeC (.grp takeG (.grp takeG (.blk takeC (.blk takeC (.grp takeG (.one takeG)))))))))) ?_
       · exact ⟨_, ⟨Sto.c ⟨A, V⟩, _, ⟨mo_0 p1, rfl, o1, a1, a2, rfl⟩, rfl⟩, _, rfl⟩
       · exact ⟨_, ⟨Sto.c ⟨A, V⟩, _, ⟨mo_1 p1, rfl, o1, a1, a2, rfl⟩, rfl⟩, rfl⟩
end Sto
namespace Sto
open Go Ev Sha Aes Orc Node Rec Chn Jrn Cau
open Rig (Fnc_takeR RigP Rg rgM readR writeR flushR setRegR z64 app_of tick comes write_ mayE RigA)
open Tree (TreP TreA Tre treM getT putT GetR PutR)
theorem getT_err {r : RigP} {ts : List ByteArray} {t : TreP} {leaf : Nat} (h : (getT r ts t leaf).e ≠ 0) : (getT r ts t leaf).s = ByteArray.empty ∧ (getT r ts t leaf).is = false := by
 unfold getT at h ⊢
 split
 · exact ⟨rfl, rfl⟩
 · split
   · exact ⟨rfl, rfl⟩
   · rename_i h1 h2
     rw [if_neg h1, if_neg h2] at h
     exact absurd rfl h
theorem getA_err {r : RigP} {ts : List ByteArray} {t : TreP} {leaf : Int} (h : (getA r ts t leaf).e ≠ 0) : (getA r ts t leaf).s = ByteArray.empty ∧ (getA r ts t leaf).is = false := by
 unfold getA at h ⊢
 split
 · rename_i h1
   rw [if_pos h1] at h
   exact getT_err h
 · exact ⟨rfl, rfl⟩
theorem getO_err {r : RigP} {ts : List ByteArray} {V : StoV} {d leaf : Int} (h : (getO r ts V d leaf).e ≠ 0) : (getO r ts V d leaf).s = ByteArray.empty ∧ (getO r ts V d leaf).is = false := by
 unfold getO at h ⊢
 split
 · exact ⟨rfl, rfl⟩
 · rename_i h1
   rw [if_neg h1] at h
   exact getA_err h
attribute [local irreducible] dgV D jC wrF rcC stC regC flF srF bare BareT frR frT frA frJ fmV RgV.lay fmR fmT getT putT Tree.wyC stoR getO putO
def StoV.fl (V : StoV) (e : Int) : StoV := { V with failed := failE e V.failed }
theorem stoR_fl (A : StoA) (V : StoV) (e : Int) : stoR ⟨A, V.fl e⟩ = stoR ⟨A, V⟩ := by unfold stoR StoV.fl; rfl
def StP.wf (x : StP) (f : Int) : StP := { x with failed := f }
theorem putO_V (r : RigP) (ts : List ByteArray) (V : StoV) (d leaf : Int) (b : ByteArray) (A : StoA) (e : Int) : (Sto.c ⟨A, V⟩).wf (failE e V.failed) = Sto.c ⟨A, (putO r ts V d leaf b).V.fl e⟩ := by
 unfold putO
 split
 · rfl
 · split
   · rfl
   · unfold StoV.setTr; split <;> rfl
theorem getO_V (r : RigP) (ts : List ByteArray) (V : StoV) (d leaf : Int) (A : StoA) (e : Int) : (Sto.c ⟨A, V⟩).wf (failE e V.failed) = Sto.c ⟨A, (getO r ts V d leaf).V.fl e⟩ := by
 unfold getO
 split
 · rfl
 · unfold StoV.setTr; split <;> rfl
def sysM (a : RigA) (r : RigP) (o : Orc) (A : StoA) (V : StoV) : List Blk := rgM ⟨a, r⟩ ++ (orcM o ++ (stB A.sn (Sto.c ⟨A, V⟩) :: stoR ⟨A, V⟩))
theorem get_ (a : RigA) (r : RigP) (o : Orc) (A : StoA) (V : StoV) (d leaf : Int) (hs : SOk ⟨A, V⟩ a.rn o.on) (hat : V.is.at_ = true) (hfl : V.failed = 0) (hb : o.ts.length ≤ 1099511610000) :
 Fnc Tryz.prog 44 [pt A.sn, .int .i64 d, .int .i64 leaf] (sysM a r o A V)
  (RetO o (getO r o.ts V d leaf).ts (fun o' => sysM a (getO r o.ts V d leaf).r o' A ((getO r o.ts V d leaf).V.fl (getO r o.ts V d leaf).e)) (.tuple #[.string (getO r o.ts V d leaf).s, .bool (getO r o.ts V d leaf).is, .int .i64 (getO r o.ts V d leaf).e])) := by
 have hrun := fun c3 c4 c5 c9 c10 => run_ A.sn (Sto.c ⟨A, V⟩) _ _ _ _ hfl (get1 ⟨a, r⟩ o ⟨A, V⟩ d leaf c3 c4 c5 c9 c10 hs hat hb)
 have hE := getO_err (r := r) (ts := o.ts) (V := V) (d := d) (leaf := leaf)
 have hV := getO_V r o.ts V d leaf A
 dsimp only at hrun
 simp only [List.cons_append, List.nil_append] at hrun
 obtain ⟨q, eq⟩ : ∃ q, q = getO r o.ts V d leaf := ⟨_, rfl⟩
 rw [← eq] at hrun hE hV ⊢
 unfold sysM
 refine fn_intro Tryz.func44 (by kernel_rfl) ?_
 repeat' ((conv => whnf); first
  | (refine call_g (hrun _ _ _ _ _) (.blk takeC (.blk takeC (.blk takeC (.blk takeC (.blk takeC (.blk takeC (.grp takeG (.grp takeG (.one takeG))))))))) (fun e A' hq => ?_); obtain ⟨oe, y, S, ⟨q1, q2, o', q3, q4, q5⟩, q6, q7⟩ := hq; subst q1; subst q2; subst q5; subst q6; subst q7; rw [mo_get]) | (rename_i k3 k4 k5 k9; refine draw_any 5 [(0, true), (1, true), (2, true), (3, true), (4, true)] [⟨k9, _⟩, ⟨n, _⟩] rfl (by kernel_rfl) (kept_of (.cons takeC (.cons takeC .nil)) ?_)) | refine fld1 ?_ | refine ld1_lit ?_ | refine nw (fun n => ?_) | refine st_lit rfl ?_ | refine need (by first | rfl | omega) ?_ | (refine ifs (fun h => ?_) (fun h => ?_) <;> try (exfalso; first | omega | with_reducible first | contradiction | exact h rfl)))
 all_goals (conv => whnf)
 · refine fin_g (A := rgM ⟨a, _⟩ ++ (orcM o' ++ (stB A.sn _ :: stoR ⟨A, q.V⟩))) (.grp takeG (.grp takeG (.blk takeC (.one takeG)))) ⟨o', q3, q4, by rw [stoR_fl, ← hV]; rfl, by rw [h]; rfl⟩
 · refine fin_g (A := rgM ⟨a, _⟩ ++ (orcM o' ++ (stB A.sn _ :: stoR ⟨A, q.V⟩))) (.grp takeG (.grp takeG (.blk takeC (.one takeG)))) ⟨o', q3, q4, by rw [stoR_fl, ← hV]; rfl, by rw [(hE h).1, (hE h).2]; rfl⟩
end Sto
namespace Sto
open Go Ev Sha Aes Orc Node Rec Chn Jrn Cau
open Rig (Fnc_takeR RigP Rg rgM readR writeR flushR setRegR z64 app_of tick comes write_ mayE RigA)
open Tree (TreP TreA Tre treM getT putT GetR PutR)
attribute [local irreducible] dgV D jC wrF rcC stC regC flF srF bare BareT frR frT frA frJ fmV RgV.lay fmR fmT getT putT Tree.wyC stoR getO putO
theorem put_ (a : RigA) (r : RigP) (o : Orc) (A : StoA) (V : StoV) (d leaf : Int) (b : ByteArray) (hs : SOk ⟨A, V⟩ a.rn o.on) (hat : V.is.at_ = true) (hfl : V.failed = 0) (hb : o.ts.length ≤ 1099511610000) :
 Fnc Tryz.prog 43 [pt A.sn, .int .i64 d, .int .i64 leaf, .string b] (sysM a r o A V)
  (RetO o (putO r o.ts V d leaf b).ts (fun o' => sysM a (putO r o.ts V d leaf b).r o' A ((putO r o.ts V d leaf b).V.fl (putO r o.ts V d leaf b).e)) (.int .i64 (putO r o.ts V d leaf b).e)) := by
 have hrun := fun c3 c4 c5 c9 => run_ A.sn (Sto.c ⟨A, V⟩) _ _ _ _ hfl (put1 ⟨a, r⟩ o ⟨A, V⟩ d leaf b c3 c4 c5 c9 hs hat hb)
 have hV := putO_V r o.ts V d leaf b A
 dsimp only at hrun
 simp only [List.cons_append, List.nil_append] at hrun
 obtain ⟨q, eq⟩ : ∃ q, q = putO r o.ts V d leaf b := ⟨_, rfl⟩
 rw [← eq] at hrun hV ⊢
 unfold sysM
 refine fn_intro Tryz.func43 (by kernel_rfl) ?_
 repeat' ((conv => whnf); first
  | (refine call_g (hrun _ _ _ _) (.blk takeC (.blk takeC (.blk takeC (.blk takeC (.blk takeC (.grp takeG (.grp takeG (.one takeG)))))))) (fun e A' hq => ?_); obtain ⟨oe, y, S, ⟨q1, q2, o', q3, q4, q5⟩, q6, q7⟩ := hq; subst q1; subst q2; subst q5; subst q6; subst q7; rw [mo_get]) | refine ld1_lit ?_ | refine nw (fun n => ?_))
 all_goals (conv => whnf)
 all_goals exact fin_g (A := rgM ⟨a, _⟩ ++ (orcM o' ++ (stB A.sn _ :: stoR ⟨A, q.V⟩))) (.grp takeG (.grp takeG (.blk takeC (.one takeG)))) ⟨o', q3, q4, by rw [stoR_fl, ← hV]; rfl, rfl⟩
theorem clear_ (a : RigA) (r : RigP) (o : Orc) (A : StoA) (V : StoV) (d leaf : Int) (hs : SOk ⟨A, V⟩ a.rn o.on) (hat : V.is.at_ = true) (hfl : V.failed = 0) (hb : o.ts.length ≤ 1099511610000) :
 Fnc Tryz.prog 103 [pt A.sn, .int .i64 d, .int .i64 leaf] (sysM a r o A V)
  (RetO o (putO r o.ts V d leaf z64).ts (fun o' => sysM a (putO r o.ts V d leaf z64).r o' A ((putO r o.ts V d leaf z64).V.fl (putO r o.ts V d leaf z64).e)) (.int .i64 (putO r o.ts V d leaf z64).e)) := by
 have hrun := fun c3 c4 c5 => run_ A.sn (Sto.c ⟨A, V⟩) _ _ _ _ hfl (clear1 ⟨a, r⟩ o ⟨A, V⟩ d leaf c3 c4 c5 hs hat hb)
 have hV := putO_V r o.ts V d leaf z64 A
 dsimp only at hrun
 simp only [List.cons_append, List.nil_append] at hrun
 obtain ⟨q, eq⟩ : ∃ q, q = putO r o.ts V d leaf z64 := ⟨_, rfl⟩
 rw [← eq] at hrun hV ⊢
 unfold sysM
 refine fn_intro Tryz.func103 (by kernel_rfl) ?_
 repeat' ((conv => whnf); first
  | (refine call_g (hrun _ _ _) (.blk takeC (.blk takeC (.blk takeC (.blk takeC (.grp takeG (.grp takeG (.one takeG))))))) (fun e A' hq => ?_); obtain ⟨oe, y, S, ⟨q1, q2, o', q3, q4, q5⟩, q6, q7⟩ := hq; subst q1; subst q2; subst q5; subst q6; subst q7; rw [mo_get]) | refine ld1_lit ?_ | refine nw (fun n => ?_))
 all_goals (conv => whnf)
 all_goals exact fin_g (A := rgM ⟨a, _⟩ ++ (orcM o' ++ (stB A.sn _ :: stoR ⟨A, q.V⟩))) (.grp takeG (.grp takeG (.blk takeC (.one takeG)))) ⟨o', q3, q4, by rw [stoR_fl, ← hV]; rfl, rfl⟩
def ivOk (x : RgV) (iv : Int) : Prop := x.iv ≤ iv ∧ iv ≤ 1099511627776
def RgV.to (x : RgV) (iv : Int) : RgV := { x with iv := iv }
theorem to_ok {x : RgV} {iv : Int} (h : x.ok) (hi : ivOk x iv) : (x.to iv).ok := by
 obtain ⟨h1, h2, h3, h4, h5, h6, h7, h8, h9, h10, h11, h12, h13, h14, h15, h16, h17, h18, h19, h20, h21⟩ := h
 exact ⟨h1, h2, by show 0 ≤ iv; have := hi.1; omega, hi.2, h5, h6, h7, h8, h9, h10, h11, h12, h13, h14, h15, h16, h17, h18, h19, h20, h21⟩
def StP.up (x : StP) (iv : Int) : StP := { x with is := x.is.to iv, next := x.next.to iv }
theorem raise1_no (g : Rg) (sn c2 c3 : Nat) (x : StP) (iv : Int) (h : ¬ ivOk x.is iv) :
 Fnc Tryz.prog 110 (([] ++ []) ++ [pt c3, pt c2]) (stB sn x :: ([cIn c3 iv, cSt c2 sn] ++ rgM g))
  (Cau.Ends fun oe M => ∃ y S, (oe = some 2 ∧ y = x ∧ S = [cIn c3 iv, cSt c2 sn] ++ rgM g) ∧ M = stB sn y :: S) := by
 unfold ivOk at h
 refine fn_intro Tryz.func110 (by kernel_rfl) ?_
 repeat' ((conv => whnf); first
  | refine draw_tree 0 (.take 0 (.take 1 (.take 2 (.take 3 (.take 4 (.take 5 (.take 6 (.take 7 (.take 8 (.take 9 (.take 10 .nil))))))))))) [⟨c3, _⟩, ⟨c2, _⟩, ⟨sn, _⟩] rfl (by kernel_rfl) (kept_of (.cons takeC (.cons takeC (.cons takeC .nil))) ?_) | refine fld1 ?_ | refine fld1_row stC_iv ?_ | (refine ifs (fun h => ?_) (fun h => ?_) <;> try (exfalso; first | omega | with_reducible first | contradiction | exact h rfl)))
 all_goals (conv => whnf)
 all_goals exact fin_all ⟨some 2, ⟨x, _, ⟨rfl, rfl, rfl⟩, rfl⟩, rfl⟩
theorem raise1_ok (g : Rg) (sn c2 c3 : Nat) (x : StP) (iv : Int) (h : ivOk x.is iv) (hok : x.is.ok) (hf : Fine g.r) (hrn : x.rn = g.a.rn) :
 Fnc Tryz.prog 110 (([] ++ []) ++ [pt c3, pt c2]) (stB sn x :: ([cIn c3 iv, cSt c2 sn] ++ rgM g))
  (Cau.Ends fun oe M => ∃ y S, (oe = none ∧ y = x.up iv ∧ S = [cIn c3 iv, cSt c2 sn] ++ rgM ⟨g.a, srF g.r (x.is.to iv).lay⟩) ∧ M = stB sn y :: S) := by
 have hset := set_ g sn x (x.is.to iv) hf hrn (to_ok hok h)
 unfold ivOk at h
 refine fn_intro Tryz.func110 (by kernel_rfl) ?_
 repeat' ((conv => whnf); first
  | refine draw_tree 0 (.take 0 (.take 1 (.take 2 (.take 3 (.take 4 (.take 5 (.take 6 (.take 7 (.take 8 (.take 9 (.take 10 .nil))))))))))) [⟨c3, _⟩, ⟨c2, _⟩, ⟨sn, _⟩] rfl (by kernel_rfl) (kept_of (.cons takeC (.cons takeC (.cons takeC .nil))) ?_) | refine fld1 ?_ | refine fld1_row stC_iv ?_ | refine nw_row (cs' := regC rg0) rg0_e (fun n => ?_) | refine ldN_row (n := sn) _ stC_is (regC_len _) ?_ | (refine need ?_ ?_; exact regC_len _) | refine force_of ?_ | refine st_rgl rfl ?_ | refine st_riv ?_ | refine ldN_whole (regC_len _) ?_ | refine call_gr hset (.grp takeG (.blk takeC .nil)) ?_ | refine st_ni ?_ | refine ld1_lit ?_ | refine need (by first | rfl | omega) ?_ | (refine ifs (fun h => ?_) (fun h => ?_) <;> try (exfalso; first | omega | with_reducible first | contradiction | exact h rfl)))
 all_goals (conv => whnf)
 all_goals exact fin_g (A := stB sn _ :: (⟨c3, _⟩ :: (⟨c2, _⟩ :: rgM ⟨g.a, _⟩))) (.blk takeC (.blk takeC (.blk takeC (.one takeG)))) ⟨none, ⟨x.up iv, _, ⟨rfl, rfl, rfl⟩, rfl⟩, _, rfl⟩
noncomputable def raiseO (r : RigP) (V : StoV) (iv : Int) : RigP × StoV × Int :=
 open Classical in if ivOk V.is iv then (srF r (V.is.to iv).lay, { V with is := V.is.to iv, next := V.next.to iv }, 0) else (r, V, 2)
theorem raise_ (a : RigA) (r : RigP) (A : StoA) (V : StoV) (iv : Int) (hrn : V.rn = a.rn) (hok : V.is.ok) (hf : Fine r) (hfl : V.failed = 0) :
 Fnc Tryz.prog 50 [pt A.sn, .int .i64 iv] (rgM ⟨a, r⟩ ++ [stB A.sn (Sto.c ⟨A, V⟩)])
  (Ret (.int .i64 (raiseO r V iv).2.2) (rgM ⟨a, (raiseO r V iv).1⟩ ++ [stB A.sn (Sto.c ⟨A, (raiseO r V iv).2.1⟩)])) := by
 by_cases h : ivOk V.is iv
 · have e : raiseO r V iv = (srF r (V.is.to iv).lay, { V with is := V.is.to iv, next := V.next.to iv }, 0) := by unfold raiseO; rw [if_pos h]
   have hrun := fun c2 c3 => run_ A.sn (Sto.c ⟨A, V⟩) _ _ _ _ hfl (raise1_ok ⟨a, r⟩ A.sn c2 c3 (Sto.c ⟨A, V⟩) iv h hok hf hrn)
   simp only [List.cons_append, List.nil_append] at hrun
   rw [e]
   refine fn_intro Tryz.func50 (by kernel_rfl) ?_
   repeat' ((conv => whnf); first
    | (refine call_g (hrun _ _) (.blk takeC (.blk takeC (.blk takeC (.one takeG)))) (fun e A' hq => ?_); obtain ⟨oe, y, S, ⟨q1, q2, q3⟩, q6, q7⟩ := hq; subst q1; subst q2; subst q3; subst q6; subst q7) | refine ld1_lit ?_ | refine nw (fun n => ?_))
   all_goals (conv => whnf)
   all_goals exact fin_g (A := rgM ⟨a, _⟩ ++ [stB A.sn _]) (.grp takeG (.blk takeC .nil)) ⟨rfl, by dsimp only; rw [show V.failed = failE 0 V.failed from rfl]; rfl⟩
 · have e : raiseO r V iv = (r, V, 2) := by unfold raiseO; rw [if_neg h]
   have hrun := fun c2 c3 => run_ A.sn (Sto.c ⟨A, V⟩) _ _ _ _ hfl (raise1_no ⟨a, r⟩ A.sn c2 c3 (Sto.c ⟨A, V⟩) iv h)
   simp only [List.cons_append, List.nil_append] at hrun
   rw [e]
   refine fn_intro Tryz.func50 (by kernel_rfl) ?_
   repeat' ((conv => whnf); first
    | (refine call_g (hrun _ _) (.blk takeC (.blk takeC (.blk takeC (.one takeG)))) (fun e A' hq => ?_); obtain ⟨oe, y, S, ⟨q1, q2, q3⟩, q6, q7⟩ := hq; subst q1; subst q2; subst q3; subst q6; subst q7) | refine ld1_lit ?_ | refine nw (fun n => ?_))
   all_goals (conv => whnf)
   all_goals exact fin_g (A := rgM ⟨a, _⟩ ++ [stB A.sn _]) (.grp takeG (.blk takeC .nil)) ⟨rfl, rfl⟩
theorem reg_ (sn : Nat) (x : StP) : Fnc Tryz.prog 12 [pt sn] [stB sn x] (Ret (.agg (regC x.is).toArray) [stB sn x]) := by
 refine fn_intro Tryz.func12 (by kernel_rfl) ?_
 repeat' ((conv => whnf); first
  | refine nw_row (cs' := regC rg0) rg0_e (fun n => ?_) | refine ldN_row (n := sn) _ stC_is (regC_len _) ?_ | refine force_of ?_ | (refine need ?_ ?_; exact regC_len _) | refine st_rgl rfl ?_ | refine ldN_whole (regC_len _) ?_)
 all_goals (conv => whnf)
 all_goals exact fin_pick (A' := [stB sn x]) (.cons takeC .nil) ⟨rfl, rfl⟩
theorem geom_ (sn : Nat) (x : StP) : Fnc Tryz.prog 15 [pt sn] [stB sn x] (Ret (.agg #[.int .i64 x.g0, .int .i64 x.g1, .int .i64 x.g2]) [stB sn x]) := by
 refine fn_intro Tryz.func15 (by kernel_rfl) ?_
 repeat' ((conv => whnf); first
  | refine ldN_row (n := sn) [.int .i64 x.g0, .int .i64 x.g1, .int .i64 x.g2] stC_g rfl ?_ | refine ldN_lit ?_ | refine nw (fun n => ?_) | refine st_lit rfl ?_ | refine need (by first | rfl | omega) ?_)
 all_goals (conv => whnf)
 all_goals exact fin_pick (A' := [stB sn x]) (.cons takeC .nil) ⟨rfl, rfl⟩
end Sto
end Go.Proofs.YtkjamonkohpcnaaGreat
