/- Texts of this proof, merged. -/
import Derived.Test.YtkjamonkohpcnaaGreatAk15
import Derived.Test.YtkjamonkohpcnaaGreatAk13
import Derived.Test.YtkjamonkohpcnaaGreatAk6
import Derived.Test.YtkjamonkohpcnaaGreatAk14
set_option linter.unusedVariables false
set_option linter.unusedSimpArgs false
set_option linter.unusedSectionVars false
set_option maxRecDepth 100000
set_option maxHeartbeats 16000000
namespace Go.Proofs.YtkjamonkohpcnaaGreat
namespace Stg
open Go Ev Sha Aes Orc Node Rec Chn Jrn Cau Sto
open Rig (Fnc_takeR RigP Rg rgM readR writeR flushR setRegR z64 app_of tick comes write_ flush_ setreg_ mayE RigA)
def lp {σ : Type} (f : Nat → σ → σ × Int) : Nat → Nat → σ → σ × Int
 | 0, _, s => (s, 0)
 | n + 1, i, s => if (f i s).2 = 0 then lp f n (i + 1) (f i s).1 else f i s
theorem lp_0 {σ : Type} (f : Nat → σ → σ × Int) (i : Nat) (s : σ) : lp f 0 i s = (s, 0) := rfl
theorem lp_ok {σ : Type} {f : Nat → σ → σ × Int} {n i : Nat} {s : σ} (h : (f i s).2 = 0) : lp f (n + 1) i s = lp f n (i + 1) (f i s).1 := if_pos h
theorem lp_no {σ : Type} {f : Nat → σ → σ × Int} {n i : Nat} {s : σ} (h : (f i s).2 ≠ 0) : lp f (n + 1) i s = f i s := if_neg h
def bd {σ τ : Type} (x : σ × Int) (g : σ → σ × Int) : σ × Int := if x.2 = 0 then g x.1 else x
def Pe (c : Int) (e : Ending) : Prop := (c = 0 ∧ e = .returned (.tuple #[])) ∨ (c ≠ 0 ∧ e = .panicked (pe c))
structure Rt where
 r : RigP
 ts : List ByteArray
open Classical in
noncomputable def setG (r : RigP) (y : RgV) : RigP × Int := if y.ok then setRegR r y.lay else (r, 2)
attribute [local irreducible] dgV D jC wrF rcC stC regC RgV.lay rgM setRegR
theorem rput_no (x : RgV) (h : ¬ x.ok) : Fnc Tryz.prog 163 [.agg (regC x).toArray] [] (Ret (.tuple #[.string ⟨#[]⟩, .int .i64 2]) []) := by
 rw [regC_L]; exact Reg.put_f x.a0 h
theorem setg (a : RigA) (r : RigP) (sn : Nat) (x : StP) (y : RgV) (hrn : x.rn = a.rn) :
 Fnc Tryz.prog 96 [pt sn, .agg (regC y).toArray] (rgM ⟨a, r⟩ ++ [stB sn x])
  (fun e M => Pe (setG r y).2 e ∧ M = rgM ⟨a, (setG r y).1⟩ ++ [stB sn (if (setG r y).2 = 0 then { x with is := y } else x)]) := by
 by_cases hy : y.ok
 · have hp := rput y hy
   have hs := setreg_ ⟨a, r⟩ y.lay
   rw [show (⟨a, r⟩ : Rg).a.rn = x.rn from hrn.symm] at hs
   rw [show setG r y = setRegR r y.lay by unfold setG; rw [if_pos hy]]
   obtain ⟨q, eq⟩ : ∃ q, q = setRegR r y.lay := ⟨_, rfl⟩
   dsimp only at hs
   rw [← eq] at hs ⊢
   refine fn_intro Tryz.func96 (by kernel_rfl) ?_
   repeat' ((conv => whnf); first
    | refine force_of ?_ | refine nw_row (cs' := regC y) rfl (fun n => ?_) | refine ldN_whole (regC_len _) ?_ | refine call_val hp ?_ | refine call_val must_ok ?_ | refine ld1_row (n := sn) stC_0 ?_ | refine call_gr hs (.one takeG) ?_ | (refine call_g (must_any _) .nil (fun e A' hq => ?_); obtain ⟨p0, ⟨p1, p2⟩ | ⟨p1, p2⟩⟩ := hq <;> subst p2 <;> subst p0) | (refine need ?_ ?_; exact regC_len _) | refine st_is ?_)
   all_goals (conv => whnf)
   · rw [if_pos p1]
     exact fin_g (A := rgM _ ++ [stB sn _]) (.grp takeG (.blk takeC .nil)) ⟨.inl ⟨p1, rfl⟩, rfl⟩
   · rw [if_neg p1]
     exact fin_g (A := rgM _ ++ [stB sn _]) (.grp takeG (.blk takeC .nil)) ⟨.inr ⟨p1, rfl⟩, rfl⟩
 · have hp := rput_no y hy
   have hm := must_no 2 (by decide)
   rw [show setG r y = (r, 2) by unfold setG; rw [if_neg hy]]
   rw [if_neg (show ¬ (2 : Int) = 0 by decide)]
   refine fn_intro Tryz.func96 (by kernel_rfl) ?_
   repeat' ((conv => whnf); first
    | refine force_of ?_ | refine nw_row (cs' := regC y) rfl (fun n => ?_) | refine ldN_whole (regC_len _) ?_ | refine call_val hp ?_ | (refine call_g hm .nil (fun e A' hq => ?_); obtain ⟨p1, p2⟩ := hq; subst p1; subst p2))
   all_goals (conv => whnf)
   all_goals exact fin_g (A := rgM _ ++ [stB sn _]) (.grp takeG (.blk takeC .nil)) ⟨.inr ⟨show (2 : Int) ≠ 0 by decide, rfl⟩, rfl⟩
def flG (l : List Nat) : Nat → RigP → RigP × Int := fun i r => flushR r ((l[i]?).getD 0 : Nat)
theorem flushg (a : RigA) (r : RigP) (sn ln c : Nat) (x : StP) (l : List Nat) (hrn : x.rn = a.rn) (hl : l.length ≤ 2) :
 Fnc Tryz.prog 95 [pt sn, .slice (some ⟨ln, 0, none⟩) l.length c] (rgM ⟨a, r⟩ ++ [stB sn x, ⟨ln, .row (l.map fun d => .int .i64 (d : Nat)) 3⟩])
  (fun e M => Pe (lp (flG l) l.length 0 r).2 e ∧ M = rgM ⟨a, (lp (flG l) l.length 0 r).1⟩ ++ [stB sn x, ⟨ln, .row (l.map fun d => .int .i64 (d : Nat)) 3⟩]) := by
 have hf := fun (r : RigP) (d : Nat) => flush_ ⟨a, r⟩ d
 simp only [← hrn] at hf
 refine fn_intro Tryz.func95 (by kernel_rfl) ?_
 repeat' ((conv => whnf); first
  | fail)
 all_goals (conv => whnf)
 refine loop_rule [8] (fun vs M m => ∃ (k : Nat) (r' : RigP), vs = [.int .i64 k] ∧ k ≤ l.length ∧ m = l.length - k ∧ lp (flG l) (l.length - k) k r' = lp (flG l) l.length 0 r ∧ M = rgM ⟨a, r'⟩ ++ [stB sn x, ⟨ln, .row (l.map fun d => .int .i64 (d : Nat)) 3⟩]) rfl ?_ ?_
 · exact fin_all ⟨_, 0, r, rfl, by omega, rfl, by rw [Nat.sub_zero], rfl⟩
 rintro vs junk M' m ⟨k, r', rfl, hk, rfl, hR, rfl⟩
 by_cases hk6 : k < l.length
 · have hg : (l.map fun d => Value.int .i64 (d : Nat))[k]? = some (.int .i64 (l[k] : Nat)) := by rw [List.getElem?_map, List.getElem?_eq_getElem hk6]; rfl
   have hF : flG l k r' = flushR r' (l[k] : Nat) := by unfold flG; rw [List.getElem?_eq_getElem hk6]; rfl
   have hf2 := hf r' l[k]
   rw [← hF] at hf2
   rw [show l.length - k = l.length - (k + 1) + 1 by omega] at hR
   repeat' ((conv => whnf); first
    | (refine nv (fun z hz => ?_); (try simp at hz); replace hz := hz.symm; subst hz) | refine need (by simp; omega) ?_ | refine ld1_row hg ?_ | refine ld1_row (n := sn) stC_0 ?_ | refine call_gr hf2 (.one takeG) ?_ | (refine call_g (must_any _) .nil (fun e A' hq => ?_); obtain ⟨p0, ⟨p1, p2⟩ | ⟨p1, p2⟩⟩ := hq <;> subst p2 <;> subst p0) | (refine wr (fun z hz => ?_); (try rw [Int.tdiv_eq_ediv_of_nonneg (by omega)] at hz); rw [w64 (by omega) (by omega)] at hz; subst hz) | (refine ifs (fun h => ?_) (fun h => ?_) <;> try (exfalso; first | omega | with_reducible first | contradiction | exact h rfl)))
   all_goals (conv => whnf)
   · rw [lp_ok p1] at hR
     exact ⟨rfl, fin_g (A := rgM _ ++ [stB sn x, _]) (.grp takeG (.blk takeC (.blk takeC .nil))) ⟨l.length - (k + 1), by omega, k + 1, _, rfl, by omega, rfl, hR, rfl⟩⟩
   · rw [lp_no p1] at hR
     rw [← hR]
     exact fin_g (A := rgM _ ++ [stB sn x, _]) (.grp takeG (.blk takeC (.blk takeC .nil))) ⟨.inr ⟨p1, rfl⟩, rfl⟩
 obtain rfl : k = l.length := by omega
 rw [Nat.sub_self, lp_0] at hR
 repeat' ((conv => whnf); first
  | (refine ifs (fun h => ?_) (fun h => ?_) <;> try (exfalso; first | omega | with_reducible first | contradiction | exact h rfl)))
 all_goals (conv => whnf)
 rw [← hR]
 exact fin_all ⟨.inl ⟨rfl, rfl⟩, rfl⟩
end Stg
namespace Stg
open Go Ev Sha Aes Orc Node Rec Chn Jrn Cau Sto
open Rig (Fnc_takeR RigP Rg rgM readR writeR flushR setRegR z64 app_of tick comes write_ flush_ setreg_ mayE RigA)
def wrL (d : Int) (at_ : Nat) (l : List ByteArray) : Nat → RigP → RigP × Int := fun i r => writeR r d (at_ + i : Nat) ((l[i]?).getD ByteArray.empty)
def wrA (r : RigP) (d : Int) (at_ : Nat) (l : List ByteArray) : RigP × Int := lp (wrL d at_ l) l.length 0 r
def rcP (seq : Int) (root : Dg) (p : Value) : List Value := .int .i64 seq :: (dgV root ++ [p])
section
variable {seq : Int} {root : Dg} {p : Value}
theorem rcP_len : (rcP seq root p).length = 34 := by unfold rcP; simp [dgV_len]
theorem rcP_0 : (rcP seq root p)[0]? = some (.int .i64 seq) := rfl
theorem rcP_rt : ((rcP seq root p).drop 1).take (dgV root).length = dgV root := rfl
theorem rcP_p : (rcP seq root p)[33]? = some p := rfl
theorem rcP_z : rcC seq root = rcP seq root (.slice none 0 0) := rfl
end
attribute [local irreducible] dgV D jC wrF rcC stC regC RgV.lay rgM setRegR writeR
theorem jwrites (a : RigA) (r : RigP) (jn on bk off c : Nat) (x : JrP) (cs : List Value) (T : TypeId) (l : List ByteArray) (hcs : (cs.drop off).take l.length = strV l) (hd : x.d ≤ 1) (ha : x.area ≤ 1) (hu : x.used + l.length ≤ 80) :
 Fnc Tryz.prog 179 [pt jn, .slice (some ⟨bk, off, none⟩) l.length c] (rgM ⟨a, r⟩ ++ [jB jn a.rn on x, ⟨bk, .row cs T⟩])
  (Ret (.int .i64 (wrA r x.d (1 + 80 * x.area + x.used) l).2) (rgM ⟨a, (wrA r x.d (1 + 80 * x.area + x.used) l).1⟩ ++ [jB jn a.rn on x, ⟨bk, .row cs T⟩])) := by
 refine fn_intro Tryz.func179 (by kernel_rfl) ?_
 repeat' ((conv => whnf); first
  | refine ld1_row jC_0 ?_)
 all_goals (conv => whnf)
 unfold wrA
 refine loop_rule [16] (fun vs M m => ∃ (k : Nat) (r' : RigP), vs = [.int .i64 k] ∧ k ≤ l.length ∧ m = l.length - k ∧ lp (wrL x.d (1 + 80 * x.area + x.used) l) (l.length - k) k r' = lp (wrL x.d (1 + 80 * x.area + x.used) l) l.length 0 r ∧ M = rgM ⟨a, r'⟩ ++ [jB jn a.rn on x, ⟨bk, .row cs T⟩]) rfl ?_ ?_
 · exact fin_all ⟨_, 0, r, rfl, by omega, rfl, by rw [Nat.sub_zero], rfl⟩
 rintro vs junk M' m ⟨k, r', rfl, hk, rfl, hR, rfl⟩
 by_cases hk6 : k < l.length
 · have hg := strV_get hcs hk6
   have hF : wrL x.d (1 + 80 * x.area + x.used) l k r' = writeR r' x.d (1 + 80 * x.area + (x.used + k) : Nat) l[k] := by unfold wrL; rw [List.getElem?_eq_getElem hk6, Nat.add_assoc]; rfl
   have hf2 := write_ ⟨a, r'⟩ x.d (1 + 80 * x.area + (x.used + k) : Nat) l[k]
   dsimp only at hf2
   rw [← hF] at hf2
   have hb := jblock x.super x.d x.area (x.used + k) ha (by omega)
   rw [show l.length - k = l.length - (k + 1) + 1 by omega] at hR
   repeat' ((conv => whnf); first
    | (refine nv (fun z hz => ?_); (try simp at hz); replace hz := hz.symm; subst hz) | refine need (by omega) ?_ | refine draw_any 5 [(0, true), (1, true), (2, true), (3, true), (4, true), (6, true), (7, true), (8, true), (10, true), (11, true), (12, true), (14, true), (17, true), (5, true), (9, true), (13, false), (15, true), (16, false), (18, false), (19, true)] [⟨jn, _⟩] rfl (by kernel_rfl) (kept_of (.cons takeC .nil) ?_) | refine kept_of (.cons takeC .nil) ?_ | refine fld1_row jC_d ?_ | refine fldN_r _ jC_w rfl ?_ | refine ld1_row (n := bk) hg ?_ | refine ld1_row jC_u ?_ | (refine wr (fun z hz => ?_); rw [show ((x.used : Int) + (k : Int)) = ((x.used + k : Nat) : Int) by omega, w64 (by omega) (by omega)] at hz; subst hz) | refine call_val hb ?_ | refine call_gr hf2 (.one takeG) ?_ | (refine wr (fun z hz => ?_); (try rw [Int.tdiv_eq_ediv_of_nonneg (by omega)] at hz); rw [w64 (by omega) (by omega)] at hz; subst hz) | (refine ifs (fun h => ?_) (fun h => ?_) <;> try (exfalso; first | omega | with_reducible first | contradiction | exact h rfl)))
   all_goals (conv => whnf)
   · rw [lp_ok (by assumption)] at hR
     exact ⟨rfl, fin_g (A := rgM _ ++ [jB jn a.rn on x, _]) (.grp takeG (.blk takeC (.blk takeC .nil))) ⟨l.length - (k + 1), by omega, k + 1, _, rfl, by omega, rfl, hR, rfl⟩⟩
   · rw [lp_no (by assumption)] at hR
     rw [← hR]
     exact fin_g (A := rgM _ ++ [jB jn a.rn on x, _]) (.grp takeG (.blk takeC (.blk takeC .nil))) ⟨rfl, rfl⟩
 obtain rfl : k = l.length := by omega
 rw [Nat.sub_self, lp_0] at hR
 repeat' ((conv => whnf); first
  | (refine ifs (fun h => ?_) (fun h => ?_) <;> try (exfalso; first | omega | with_reducible first | contradiction | exact h rfl)))
 all_goals (conv => whnf)
 rw [← hR]
 exact fin_all ⟨rfl, rfl⟩
noncomputable def addJs (x : JrP) (seq : Int) (root : Dg) (l : List ByteArray) : JrP := { x with anchor := D (nextSs x.anchor l), used := x.used + l.length, seq := seq, root := root }
attribute [local irreducible] rcP
theorem jadds (o : Orc) (jn rn bk off c : Nat) (x : JrP) (seq : Int) (root : Dg) (p : Value) (cs : List Value) (T : TypeId) (l : List ByteArray) (hcs : (cs.drop off).take l.length = strV l) (hl : 1 ≤ l.length ∧ l.length ≤ 80) (hs : ∀ s ∈ l, s.size = 64) (hu : x.used < 1000) (hb : o.ts.length ≤ 1099511627776) :
 Fnc Tryz.prog 180 [pt jn, .agg (rcP seq root p).toArray, .slice (some ⟨bk, off, none⟩) l.length c] (orcM o ++ [jB jn rn o.on x, ⟨bk, .row cs T⟩])
  (RetO o (addT o.ts (nextSs x.anchor l)) (fun o' => orcM o' ++ [jB jn rn o.on (addJs x seq root l), ⟨bk, .row cs T⟩]) (.tuple #[])) := by
 have hn := nexts o x.anchor bk off c cs T l hcs hl hs hb
 refine fn_intro Tryz.func180 (by kernel_rfl) ?_
 repeat' ((conv => whnf); first
  | refine force_of ?_ | refine nw_row (cs' := rcP seq root p) rfl (fun n => ?_) | refine draw_tree 1 (.take 0 (.take 1 (.take 2 (.take 3 (.take 5 (.take 6 (.take 7 (.take 9 (.two 4 8 (.only 8 (.only 10 (.take 11 (.take 12 (.take 13 (.take 14 (.take 15 (.only 16 .nil)))))))) (.only 4 (.only 10 (.take 11 (.take 12 (.take 13 (.take 14 (.take 15 (.only 16 .nil))))))))))))))))) [] rfl (by kernel_rfl) ?_ | refine And.intro ?_ ?_ | refine kept_nil ?_ | refine ld1_row (n := jn) jC_1 ?_ | refine draw_any 3 [(0, true), (1, true), (2, true), (4, true), (3, true), (6, true), (7, true), (5, true), (8, false), (9, true), (10, true), (11, false)] [⟨n, _⟩] rfl (by kernel_rfl) (kept_of (.cons takeC .nil) ?_) | refine kept_of (.cons takeC .nil) ?_ | refine fld1_row rcP_0 ?_ | refine fldN_r _ rcP_rt (dgV_len _) ?_ | refine ldN_row (n := jn) _ jC_n (dgV_len _) ?_ | refine ld1_row jC_u ?_ | refine call_go hn (.blk takeC (.one takeG)) (fun o' h1 h2 => ?_) | (refine need ?_ ?_; exact dgV_len _) | (refine wr (fun z hz => ?_); replace hz : z = IntKind.i64.wrap ((x.used + l.length : Nat) : Int) := hz; rw [w64 (by omega) (by omega)] at hz; subst hz) | refine st_jn ?_ | refine st_ju ?_ | refine st_js ?_ | refine st_jr ?_ | refine need (by first | rfl | omega) ?_)
 all_goals (conv => whnf)
 all_goals first
  | rfl
  | exact fin_g (A := orcM o' ++ [jB jn rn o.on (addJs x seq root l), ⟨bk, _⟩]) (.grp takeG (.blk takeC (.blk takeC .nil))) ⟨o', h1, h2, rfl, rfl⟩
end Stg
namespace Stg
open Go Ev Sha Aes Orc Node Rec Chn Jrn Cau Sto
open Rig (Fnc_takeR RigP Rg rgM readR writeR flushR setRegR z64 app_of tick comes write_ flush_ setreg_ mayE RigA)
theorem St_head {A M : List Blk} {w w' : World} {n : Nat} {o o' : BO} (hr : (⟨n, o⟩ : Blk).ro = (⟨n, o'⟩ : Blk).ro) (h : St (⟨n, o⟩ :: A) w w' M) : St (⟨n, o'⟩ :: A) w w' M := by
 refine ⟨h.os, h.tape, h.output, h.size, fun k hk hA => h.keep k hk fun b hb hro => ?_, h.has, fun b hb => ?_, h.apart⟩
 · rcases List.mem_cons.1 hb with rfl | hb
   · exact hA ⟨n, o'⟩ List.mem_cons_self (by rw [← hr]; exact hro)
   · exact hA b (List.mem_cons_of_mem _ hb) hro
 · rcases h.own b hb with ⟨a, ha, h1, h2⟩ | h3
   · rcases List.mem_cons.1 ha with rfl | ha
     · exact .inl ⟨⟨n, o'⟩, List.mem_cons_self, h1, fun h => h2 (by rw [hr]; exact h)⟩
     · exact .inl ⟨a, List.mem_cons_of_mem _ ha, h1, h2⟩
   · exact .inr h3
theorem Fnc_row {P : Program} {f : FuncId} {args : List Value} {A : List Blk} {Q : Ending → List Blk → Prop} {n : Nat} {cs : List Value} {T : TypeId} (h : Fnc P f args (⟨n, .row cs T⟩ :: A) Q) : Fnc P f args (⟨n, .cells cs T⟩ :: A) Q := by
 have := h.out
 delta Fnc
 refine ⟨this.1, fun w hm => ?_⟩
 have hs : St (⟨n, .cells cs T⟩ :: A) w w ([] ++ ⟨n, .cells cs T⟩ :: A) := St.init hm
 have hm' : Mem w (⟨n, .row cs T⟩ :: A) := (St_swap (o' := .row cs T) hs rfl (fun h => h)).mem
 exact (this.2 w hm').mono fun e w' ⟨A', s1, hq⟩ => ⟨A', St_head (o := .row cs T) (o' := .cells cs T) rfl s1, hq⟩
noncomputable def beginG (super : ByteArray) (d area : Nat) (seq : Int) (root : Dg) (s : Rt) : Rt × Int :=
 if (writeR s.r d (1 + 80 * area : Nat) (recB seq root)).2 = 0 then (⟨(writeR s.r d (1 + 80 * area : Nat) (recB seq root)).1, addT (addT s.ts (startS super d area)) (nextSs (D (startS super d area)) [recB seq root])⟩, 0)
 else (⟨(writeR s.r d (1 + 80 * area : Nat) (recB seq root)).1, addT s.ts (startS super d area)⟩, (writeR s.r d (1 + 80 * area : Nat) (recB seq root)).2)
theorem wrA_1 (r : RigP) (d : Int) (at_ : Nat) (s : ByteArray) : (wrA r d at_ [s]).2 = (writeR r d at_ s).2 ∧ (wrA r d at_ [s]).1 = (writeR r d at_ s).1 := by
 have e : wrL d at_ [s] 0 r = writeR r d at_ s := rfl
 unfold wrA
 show (lp (wrL d at_ [s]) (0 + 1) 0 r).2 = _ ∧ (lp (wrL d at_ [s]) (0 + 1) 0 r).1 = _
 by_cases h : (writeR r d at_ s).2 = 0
 · rw [lp_ok (by rw [e]; exact h), lp_0, e, h]; exact ⟨rfl, rfl⟩
 · rw [lp_no (by rw [e]; exact h), e]; exact ⟨rfl, rfl⟩
noncomputable def begJ (super : ByteArray) (d area : Nat) (seq : Int) (root : Dg) : JrP := addJs (jr0 super d area (D (startS super d area))) seq root [recB seq root]
def BegQ (a : RigA) (o : Orc) (q : Rt × Int) (J : JrP) : Ending → List Blk → Prop := fun e M => ∃ o' : Orc, o'.on = o.on ∧ o'.ts = q.1.ts ∧
 ((q.2 = 0 ∧ ∃ jn : Nat, e = .returned (.tuple #[pt jn, .int .i64 0]) ∧ M = rgM ⟨a, q.1.r⟩ ++ (orcM o' ++ [jB jn a.rn o.on J])) ∨ (q.2 ≠ 0 ∧ e = .returned (.tuple #[.pointer none, .int .i64 q.2]) ∧ M = rgM ⟨a, q.1.r⟩ ++ orcM o'))
attribute [local irreducible] dgV D jC wrF rcC stC regC RgV.lay rgM setRegR writeR rcP recB
theorem jbeging (a : RigA) (s : Rt) (o : Orc) (super : ByteArray) (d area : Nat) (seq : Int) (root : Dg) (hts : o.ts = s.ts) (hd : d ≤ 1) (ha : area ≤ 1) (hs : super.size = 64) (hq : seqOk seq) (hb : s.ts.length ≤ 1099511627000) :
 Fnc Tryz.prog 207 [pt a.rn, pt o.on, .agg #[.string super, .int .i64 d, .int .i64 area], .agg (rcC seq root).toArray] (rgM ⟨a, s.r⟩ ++ orcM o)
  (BegQ a o (beginG super d area seq root s) (begJ super d area seq root)) := by
 have hst := start_ o super d area hd ha hs (by rw [hts]; omega)
 have hlay := rlay seq root hq
 have hsz := recB_size hq root
 obtain ⟨w1, w2⟩ := wrA_1 s.r d (1 + 80 * area + 0) (recB seq root)
 have hw : ∀ jn bk : Nat, Fnc Tryz.prog 179 [pt jn, .slice (some ⟨bk, 0, none⟩) 1 1] (⟨bk, .cells [.string (recB seq root)] 9⟩ :: (rgM ⟨a, s.r⟩ ++ [jB jn a.rn o.on (jr0 super d area (D (startS super d area)))]))
  (Ret (.int .i64 (writeR s.r d (1 + 80 * area + 0 : Nat) (recB seq root)).2) (rgM ⟨a, (writeR s.r d (1 + 80 * area + 0 : Nat) (recB seq root)).1⟩ ++ [jB jn a.rn o.on (jr0 super d area (D (startS super d area))), ⟨bk, .row [.string (recB seq root)] 9⟩])) := fun jn bk => by
  have := jwrites a s.r jn o.on bk 0 1 (jr0 super d area (D (startS super d area))) [.string (recB seq root)] 9 [recB seq root] rfl hd ha (by show 0 + 1 ≤ 80; omega)
  rw [show (jr0 super d area (D (startS super d area))).d = d from rfl, show (jr0 super d area (D (startS super d area))).area = area from rfl, show (jr0 super d area (D (startS super d area))).used = 0 from rfl, w1, w2] at this
  refine Fnc_row (Fnc_perm this ?_)
  exact TakesG.perm (M := rgM ⟨a, s.r⟩ ++ [jB jn a.rn o.on _, ⟨bk, _⟩]) (A := ⟨bk, _⟩ :: (rgM ⟨a, s.r⟩ ++ [jB jn a.rn o.on _])) (R := []) (.blk takeC (.grp takeG (.blk takeC .nil))) |>.trans (by rw [List.append_nil])
 rw [Nat.add_zero] at hw
 have ha2 : ∀ (o1 : Orc) (jn bk : Nat), o1.on = o.on → o1.ts = addT s.ts (startS super d area) → Fnc Tryz.prog 180 [pt jn, .agg (rcC seq root).toArray, .slice (some ⟨bk, 0, none⟩) 1 1] (orcM o1 ++ [jB jn a.rn o.on (jr0 super d area (D (startS super d area))), ⟨bk, .row [.string (recB seq root)] 9⟩])
  (RetO o1 (addT (addT s.ts (startS super d area)) (nextSs (D (startS super d area)) [recB seq root])) (fun o' => orcM o' ++ [jB jn a.rn o.on (begJ super d area seq root), ⟨bk, .row [.string (recB seq root)] 9⟩]) (.tuple #[])) := fun o1 jn bk h1 h2 => by
  have hl := addT_len s.ts (startS super d area)
  have := jadds o1 jn a.rn bk 0 1 (jr0 super d area (D (startS super d area))) seq root (.slice none 0 0) [.string (recB seq root)] 9 [recB seq root] rfl ⟨Nat.le_refl 1, by show 1 ≤ 80; omega⟩ (by intro x hx; simp at hx; subst hx; exact hsz) (by show 0 < 1000; omega) (by rw [h2]; omega)
  rw [h1, h2, ← rcP_z] at this
  exact this
 by_cases h0 : (writeR s.r d (1 + 80 * area : Nat) (recB seq root)).2 = 0
 all_goals
  refine fn_intro Tryz.func207 (by kernel_rfl) ?_
  repeat' ((conv => whnf); first
   | refine force_of ?_ | refine nw_row (cs' := rcC seq root) rfl (fun n => ?_) | refine nw_z (fun nz => ?_) | refine call_go hst (.one takeG) (fun o1 a1 a2 => ?_) | (refine call_g hlay .nil (fun e A' hq => ?_); obtain ⟨bk, h1, h2⟩ := hq; subst h1; subst h2) | (refine need ?_ ?_; exact dgV_len _) | refine st_dg ?_ | refine ldN_dg rfl ?_ | refine ldN_whole (rcC_len _ _) ?_ | refine ld1_row rcC_p ?_ | (refine bld_cons (vs := [_]) rfl rfl rfl (Nat.le_of_ble_eq_true rfl) rfl ?_; refine bld_cons (vs := [_]) rfl rfl rfl (Nat.le_of_ble_eq_true rfl) rfl ?_; refine bld_cons (vs := [_, _, _]) rfl rfl rfl (Nat.le_of_ble_eq_true rfl) rfl ?_; refine bld_cons (vs := dgV (D (startS super d area))) (cs1 := jC a.rn o.on (jr0 super d area (D (startS super d area)))) rfl rfl (dgV_len _) (Nat.le_of_ble_eq_true rfl) (jr0_e _ _ _ _ _ _) ?_; refine bld_nil ?_) | refine nw_row (cs' := jC a.rn o.on (jr0 super d area (D (startS super d area)))) rfl (fun jn => ?_) | refine call_gr (hw _ _) (.blk takeC (.grp takeG (.blk takeC .nil))) ?_ | refine call_go (ha2 _ _ _ a1 (by rw [a2, hts])) (.grp takeG (.blk takeC (.blk takeC .nil))) (fun o2 b1 b2 => ?_) | refine ld1_lit ?_ | refine ldN_lit ?_ | refine nw (fun n => ?_) | (refine ifs (fun h => ?_) (fun h => ?_) <;> try (exfalso; first | omega | with_reducible first | contradiction | exact h rfl)))
 all_goals (conv => whnf)
 · refine fin_g (A := rgM _ ++ (orcM o2 ++ [jB jn a.rn o.on _])) (.grp takeG (.grp takeG (.blk takeC .nil))) ⟨o2, by rw [b1, a1], ?_, .inl ⟨?_, jn, rfl, ?_⟩⟩
   · unfold beginG; rw [if_pos h0, b2]
   · unfold beginG; rw [if_pos h0]
   · unfold beginG; rw [if_pos h0]
 · refine fin_g (A := rgM _ ++ orcM o1) (.grp takeG (.one takeG)) ⟨o1, a1, ?_, .inr ⟨?_, ?_, ?_⟩⟩
   · unfold beginG; rw [if_neg h0, a2, hts]
   · unfold beginG; rw [if_neg h0]; exact h0
   · unfold beginG; rw [if_neg h0]; rfl
   · unfold beginG; rw [if_neg h0]
end Stg
namespace Srt
open Go Ev Sha Aes Orc Node Tree
instance (priority := 3000) ZipO_nil2 {M : List Blk} {e : TypeId} : ZipO M .nil e [] (fun l => l ++ M) := ⟨⟨[], M, rfl, fun _ => rfl⟩⟩
theorem vS_get {l : List (Int × ByteArray)} {i : Nat} (h : i < (vS l).length) (h' : i < l.length) : (vS l)[i] = (l[i].1, .string l[i].2) := by
 have e : (vS l)[i]? = some (l[i].1, .string l[i].2) := by unfold vS; rw [List.getElem?_map, List.getElem?_eq_getElem h']; rfl
 rw [List.getElem?_eq_getElem h] at e
 exact Option.some.inj e
theorem lenle : ∀ {n : Nat} {l : List Nat}, l.Nodup → (∀ i ∈ l, i < n) → l.length ≤ n
 | 0, l, _, h => by cases l with
   | nil => simp
   | cons a t => exact absurd (h a List.mem_cons_self) (by omega)
 | n + 1, l, hn, h => by
   by_cases hm : n ∈ l
   · have h1 : (l.erase n).length ≤ n := lenle (hn.erase n) fun i hi => by
      have h2 := h i (List.mem_of_mem_erase hi)
      have h3 : i ≠ n := fun e => (List.Nodup.not_mem_erase hn) (e ▸ hi)
      omega
     rw [List.length_erase_of_mem hm] at h1
     omega
   · have := lenle (n := n) hn fun i hi => by
      have h2 := h i hi
      have h3 : i ≠ n := fun e => hm (e ▸ hi)
      omega
     omega
def pick (l : List (Int × ByteArray)) (seen : List Nat) : List (Int × ByteArray) := seen.map fun i => (l[i]?).getD (0, ByteArray.empty)
theorem pick_app {l : List (Int × ByteArray)} {seen : List Nat} {i : Nat} (h : i < l.length) : pick l (seen ++ [i]) = pick l seen ++ [l[i]] := by unfold pick; rw [List.map_append]; simp [h]
theorem pick_len (l : List (Int × ByteArray)) (seen : List Nat) : (pick l seen).length = seen.length := by unfold pick; simp
theorem pick_all {l : List (Int × ByteArray)} {seen : List Nat} (hn : seen.Nodup) (hl : ∀ i ∈ seen, i < l.length) (ha : ∀ i, i < l.length → i ∈ seen) : (pick l seen).Perm l ∧ seen.length = l.length := by
 have hp : seen.Perm (List.range l.length) := (List.perm_ext_iff_of_nodup hn List.nodup_range).2 fun i => by
  rw [List.mem_range]; exact ⟨hl i, ha i⟩
 refine ⟨?_, by rw [hp.length_eq, List.length_range]⟩
 have h1 : (pick l seen).Perm (pick l (List.range l.length)) := hp.map _
 have h2 : pick l (List.range l.length) = l := by
  unfold pick
  apply List.ext_getElem?
  intro i
  rw [List.getElem?_map]
  by_cases h : i < l.length
  · rw [List.getElem?_range h]; simp [h]
  · rw [List.getElem?_eq_none (by simp; omega), List.getElem?_eq_none (by omega)]; rfl
 rwa [h2] at h1
theorem flatV_app (l : List (Int × ByteArray)) (x : Int × ByteArray) : flatV (l ++ [x]) = flatV l ++ encP x := by unfold flatV; simp
theorem pick_lt {l : List (Int × ByteArray)} {seen : List Nat} (hn : seen.Nodup) (hl : ∀ i ∈ seen, i < l.length) : seen.length ≤ l.length := lenle hn hl
attribute [local irreducible] vS mapK Instr.lookup Instr.mapUpdate Instr.makeMap Builtin.len_ Builtin.append_ flatV iterO Instr.range Instr.next Instr.entry
theorem srt_len (l : List (Int × ByteArray)) : (srt l).length = l.length := (srt_perm l).length_eq
theorem cells_lit0 {M : List Blk} {n : Nat} {cs : List Value} {t : TypeId} [hk : Look M n (.cells cs t)] : ∀ (A : List Blk) (w0 w : World), St A w0 w M → ∀ (j : Nat) (v : Value), cs[j]? = some v → w.cell? ⟨n, 0 + j, none⟩ = some v := fun A w0 w st j v hj => by
 rw [Nat.zero_add]; exact cells_at A w0 w st j v hj
theorem puts_ (sn mn : Nat) (l : List (Int × ByteArray)) (hn : (l.map (·.1)).Nodup) (h1 : 1 ≤ l.length) (h2 : l.length ≤ 1000) :
 Fnc Tryz.prog 125 [pt sn] [shB sn mn, mpB mn l] (fun e A => ∃ (g cap : Nat) (junk : List Value), e = .returned (.slice (some ⟨g, 0, none⟩) l.length cap) ∧ A = [shB sn mn, mpB mn l, ⟨g, .row (flatV (srt l) ++ junk) 117⟩]) := by
 have hs := fun g cap junk (m : List (Int × ByteArray)) (hm : (m.map (·.1)).Nodup) (hl : m.length = l.length) => sort_ g cap m junk 117 hm (by omega)
 refine fn_intro Tryz.func125 (by kernel_rfl) ?_
 repeat' ((conv => whnf); first
  | refine map_range (e := kI) rfl (fun r => ?_) | refine ld1_lit ?_)
 all_goals (conv => whnf)
 refine loop_rule [3] (fun vs M m => ∃ (seen : List Nat) (S : Own), vs = [S.val seen.length] ∧ seen.Nodup ∧ (∀ i ∈ seen, i < l.length) ∧ S.ok 2 seen.length (flatV (pick l seen)) ∧ m = l.length - seen.length ∧
  M = shB sn mn :: mpB mn l :: ⟨r, .obj (iterO mn (vS l).length seen)⟩ :: S.blk 117 (flatV (pick l seen))) rfl ?_ ?_
 · exact fin_g (A := shB sn mn :: mpB mn l :: [⟨r, _⟩]) (.blk takeC (.blk takeC (.blk takeC .nil))) ⟨_, [], .nil, rfl, List.nodup_nil, fun i hi => (by cases hi), ⟨by unfold flatV pick; rfl, rfl⟩, rfl, rfl⟩
 rintro vs junk M' m ⟨seen, S, rfl, hsn, hsl, hok, rfl, rfl⟩
 have hle := pick_lt hsn hsl
 have hvl := vS_len l
 repeat' ((conv => whnf); first
  | refine map_next (e := kI) (fun hall => ?_) (fun i hi hni => ?_))
 all_goals (conv => whnf)
 · obtain ⟨hp, hlen⟩ := pick_all hsn hsl fun i hi => hall i (by rw [hvl]; exact hi)
   have hne : 1 ≤ seen.length := by omega
   cases S with
   | nil => exact absurd hok.2 (by omega)
   | at_ g cap jk =>
     have hst := hs g cap jk (pick l seen) ((hp.map (·.1)).nodup_iff.2 hn) (by rw [pick_len, hlen])
     rw [pick_len, srt_of hp hn] at hst
     have hst' : Fnc Tryz.prog 181 [(Own.at_ g cap jk).val seen.length, .func (.func 182) #[] #[]] ((Own.at_ g cap jk).blk 117 (flatV (pick l seen))) (Ret (.tuple #[]) ((Own.at_ g cap jk).blk 117 (flatV (srt l)))) := hst
     repeat' ((conv => whnf); first
      | refine call_gr hst' (.one takeE) ?_)
     all_goals (conv => whnf)
     rw [hlen]
     exact fin_g (A := shB sn mn :: mpB mn l :: (Own.at_ g cap jk).blk 117 (flatV (srt l))) (.blk takeC (.blk takeC (.one takeE))) ⟨g, cap, jk, rfl, rfl⟩
 · have hi' : i < l.length := by omega
   have e1 := vS_get hi hi'
   rw [e1]
   have hap := pick_app (seen := seen) hi'
   repeat' ((conv => whnf); first
    | (refine map_entry (e := kI) (seen := seen) (l := vS l) hi ?_; rw [e1]) | refine app_wide (S := S) (n := seen.length) (m := 1) (sz := 2) (e := 117) (xs := flatV (pick l seen)) (news := encP l[i]) rfl rfl rfl rfl rfl hok rfl (by omega) (fun u hu => by simp [encP] at hu; rcases hu with rfl | rfl <;> rfl) (by show (seen.length + 1) * 24 ≤ _; omega) (by omega) (cells_lit0) (fun S' hS' => ?_) | refine nw (fun n => ?_) | refine bld ?_)
   all_goals (conv => whnf)
   all_goals
    have hn2 : (seen ++ [i]).Nodup := List.nodup_append.2 ⟨hsn, by simp, fun a ha b hb e => by simp at hb; subst hb; subst e; exact hni ha⟩
    have hl2 : ∀ j ∈ seen ++ [i], j < l.length := fun j hj => by
     rcases List.mem_append.1 hj with q | q
     · exact hsl j q
     · simp at q; omega
    have hle2 := pick_lt hn2 hl2
    have hlen2 : (seen ++ [i]).length = seen.length + 1 := by simp
    rw [show encP (l[i]) = encP l[i] from rfl, ← flatV_app, ← hap] at hS' ⊢
    exact ⟨rfl, fin_g (A := shB sn mn :: mpB mn l :: ⟨r, _⟩ :: S'.blk 117 (flatV (pick l (seen ++ [i])))) (.blk takeC (.blk takeC (.blk takeC (.one takeE)))) ⟨l.length - (seen ++ [i]).length, by rw [hlen2] at hle2 ⊢; omega, seen ++ [i], S', by rw [hlen2], hn2, hl2, by rw [hlen2]; exact hS', rfl, rfl⟩⟩
end Srt
namespace Rec
open Go Ev Sha Aes Orc Node Srt Stg Chn
def chk : Int → List (Int × ByteArray) → Bool
 | _, [] => true
 | last, p :: t => decide (last < p.1 ∧ p.1 < 288 ∧ p.2.size = 64) && chk p.1 t
open Classical in
noncomputable def chkE (seq : Int) (l : List (Int × ByteArray)) : Int := if 64 < l.length then 4 else if ¬ seqOk seq then 2 else if chk 160 l = true then 0 else 2
theorem chk_cons (last : Int) (p : Int × ByteArray) (t : List (Int × ByteArray)) : chk last (p :: t) = (decide (last < p.1 ∧ p.1 < 288 ∧ p.2.size = 64) && chk p.1 t) := rfl
theorem chk_nil (last : Int) : chk last [] = true := rfl
theorem flat_at {l : List (Int × ByteArray)} {junk : List Value} {k : Nat} (hk : k < l.length) : ((flatV l ++ junk).drop (k * 2)).take (encP l[k]).length = encP l[k] := by
 have hl := flatV_len l
 apply List.ext_getElem?
 intro j
 rw [List.getElem?_take]
 by_cases hj : j < 2
 · rw [if_pos (show j < (encP l[k]).length from hj), List.getElem?_drop, List.getElem?_append_left (by omega), flatV_get hk hj]
 · rw [if_neg (show ¬ j < (encP l[k]).length from hj), List.getElem?_eq_none (show (encP l[k]).length ≤ j from by show 2 ≤ j; omega)]
theorem strV_snoc (l : List ByteArray) (s : ByteArray) : strV (l ++ [s]) = strV l ++ [.string s] := by unfold strV; rw [List.map_append]; rfl
theorem call_rosub {P : Program} {M : List Blk} {k : Kv} {pan : Kp} {f : FuncId} {args : List Value} {n off : Nat} {cs xs : List Value} {t : TypeId} {N' : List Blk} {v : Value} (h : Fnc P f args [⟨n, .ro off xs⟩] (Ret v N')) [hl : Look M n (.row cs t)] (hx : (cs.drop off).take xs.length = xs) (hk : k v M) : Cl P f args M k pan := by
 refine call_ro h (by simp [Blk.ro]) (fun A w0 w st => ⟨?_, List.pairwise_singleton _ _⟩) hk
 intro b hb
 simp only [List.mem_singleton] at hb
 subst hb
 have h1 := st.has _ hl.mem
 exact ⟨h1.lt, fun j v hj => row_at h1 hx j v hj⟩
theorem join1 (bk : Nat) (T : TypeId) (a : ByteArray) : Fnc Tryz.prog 244 [.slice (some ⟨bk, 0, none⟩) 1 1, .string ⟨#[]⟩] [⟨bk, .cells [.string a] T⟩] (Ret (.string a) [⟨bk, .cells [.string a] T⟩]) := by
 refine fn_intro Tryz.func244 (by kernel_rfl) ?_
 repeat' ((conv => whnf); first
  | refine nv_eq (a := 0) rfl ?_ | refine ld1_lit ?_ | refine need (by first | rfl | omega) ?_ | (refine ifs (fun h => ?_) (fun h => ?_) <;> try (exfalso; first | omega | with_reducible first | contradiction | exact h rfl)))
 all_goals (conv => whnf)
 all_goals exact fin_all ⟨rfl, rfl⟩
theorem rblock1 (bk : Nat) (T : TypeId) (a : ByteArray) (hs : a.size ≤ 64) :
 Fnc Tryz.prog 217 [.slice (some ⟨bk, 0, none⟩) 1 1] [⟨bk, .cells [.string a] T⟩] (Ret (.string (Be.padS a 64)) [⟨bk, .cells [.string a] T⟩]) := by
 have hj := join1 bk T a
 have hp := Be.pad a 64 (by omega)
 refine fn_intro Tryz.func217 (by kernel_rfl) ?_
 repeat' ((conv => whnf); first
  | refine call_gr hj (.blk takeC .nil) ?_ | refine call_val hp ?_)
 all_goals (conv => whnf)
 all_goals exact fin_all ⟨rfl, rfl⟩
def ats (l : List (Int × ByteArray)) : List Int := l.map (·.1)
abbrev intV (l : List Int) : List Value := l.map (.int .i64)
theorem ats_len (l : List (Int × ByteArray)) : (ats l).length = l.length := by unfold ats; simp
def ixB (a : List Int) : ByteArray := Be.padS (Be.rowS 2 a) 64
def idxs (a : List Int) (k : Nat) : List ByteArray := (List.range k).map fun j => ixB ((a.drop (32 * j)).take 32)
theorem idxs_s (a : List Int) (k : Nat) : idxs a (k + 1) = idxs a k ++ [ixB ((a.drop (32 * k)).take 32)] := by unfold idxs; rw [List.range_succ, List.map_append]; rfl
theorem idxs_len (a : List Int) (k : Nat) : (idxs a k).length = k := by unfold idxs; simp
def recT (seq : Int) (n : Nat) (root : Dg) : ByteArray := ⟨#[114, 99]⟩ ++ Be.putS seq 4 ++ Be.putS n 2 ++ str (dl root)
def recN (seq : Int) (n : Nat) (root : Dg) : ByteArray := Be.padS (recT seq n root) 64
theorem recN_eq (seq : Int) (n : Nat) (root : Dg) : recN seq n root = Be.padS (⟨#[114, 99]⟩ ++ Be.putS seq 4 ++ Be.putS n 2 ++ str (dl root)) 64 := rfl
def bods (l : List (Int × ByteArray)) : List ByteArray := l.map (·.2)
def recLs (seq : Int) (root : Dg) (l : List (Int × ByteArray)) : List ByteArray := recN seq l.length root :: (idxs (ats l) ((l.length + 31) / 32) ++ bods l)
theorem recLs_len (seq : Int) (root : Dg) (l : List (Int × ByteArray)) : (recLs seq root l).length = 1 + (l.length + 31) / 32 + l.length := by
 unfold recLs bods; simp [idxs_len]; omega
theorem recT_size {seq : Int} (h : seqOk seq) {n : Nat} (hn : n ≤ 64) (root : Dg) : (recT seq n root).size = 40 := by
 unfold recT
 have hp : Be.putE n 2 = 0 := by
  refine Be.putE_ok (by omega) ?_
  rintro (h1 | ⟨_, h2⟩)
  · omega
  · rw [show ((256 : Int) ^ Int.toNat 2) = 65536 from rfl] at h2; omega
 rw [Be.putS_ok (putE4 h), Be.putS_ok hp]
 simp only [ByteArray.size_append, Ev.str_size, Be.bb_length, dl_len]
 rfl
theorem pad64 {s : ByteArray} (h : s.size ≤ 64) : (Be.padS s 64).size = 64 := by
 have : Be.padS s 64 = Be.full s 64 := by
  have h0 : Be.padE s 64 = 0 := by unfold Be.padE; rw [if_neg (by omega), if_neg (by omega)]
  unfold Be.padS
  rw [if_pos h0]
 rw [this]
 unfold Be.full
 split
 · rename_i h1; have : (64 : Int) ≤ s.size := h1; omega
 · rw [ByteArray.size_append, Ev.str_size, List.length_replicate]; omega
theorem put2_le (x : Int) : (Be.putS x 2).data.toList.length ≤ 2 := by
 by_cases h : Be.putE x 2 = 0
 · rw [Be.putS_ok h]
   show (Be.bb _ _).length ≤ 2
   rw [Be.bb_length]; decide
 · rw [Be.putS_no h]; exact Nat.zero_le 2
theorem cat2_le : ∀ l : List Int, (Be.cat 2 l).length ≤ 2 * l.length
 | [] => Nat.le_refl _
 | x :: t => by
   have h := put2_le x
   have ih := cat2_le t
   have e : Be.cat 2 (x :: t) = (Be.putS x 2).data.toList ++ Be.cat 2 t := by unfold Be.cat; rw [List.flatMap_cons]
   rw [e, List.length_append, List.length_cons]; omega
theorem row2_le {l : List Int} (h : l.length ≤ 32) : (Be.rowS 2 l).size ≤ 64 := by
 unfold Be.rowS
 have := cat2_le l
 split
 · rw [Ev.str_size]; omega
 · exact Nat.zero_le _
theorem rcP_r (seq : Int) (root : Dg) (p : Value) : ((rcP seq root p).drop 1).take (dl root).length = u8s (dl root) := by
 show (dgV root ++ [p]).take (dl root).length = _
 rw [dl_len, List.take_left' (dgV_len root), dgV_u8]
attribute [local irreducible] dgV D rcC rcP convert Builtin.copy_ Builtin.append_ Be.putS Be.padS Be.putE Be.padE recS flatV chk recN recT ixB Be.rowS
theorem rcheckP (seq : Int) (root : Dg) (g c : Nat) (l : List (Int × ByteArray)) (junk : List Value) (T : TypeId) (hl : l.length ≤ 100000) :
 Fnc Tryz.prog 216 [.agg (rcP seq root (.slice (some ⟨g, 0, none⟩) l.length c)).toArray] [⟨g, .row (flatV l ++ junk) T⟩] (Ret (.int .i64 (chkE seq l)) [⟨g, .row (flatV l ++ junk) T⟩]) := by
 have e4 : 64 < l.length → chkE seq l = 4 := fun h => by unfold chkE; rw [if_pos h]
 have e2 : ¬ 64 < l.length → ¬ seqOk seq → chkE seq l = 2 := fun h h2 => by unfold chkE; rw [if_neg h, if_pos h2]
 have e0 : ¬ 64 < l.length → seqOk seq → chkE seq l = if chk 160 l = true then 0 else 2 := fun h h2 => by unfold chkE; rw [if_neg h, if_neg (fun h3 => h3 h2)]
 refine fn_intro Tryz.func216 (by kernel_rfl) ?_
 repeat' ((conv => whnf); first
  | refine force_of ?_ | refine nw_row (cs' := rcP seq root (.slice (some ⟨g, 0, none⟩) l.length c)) rfl (fun n => ?_) | refine ld1_row rcP_p ?_ | refine ld1_row rcP_0 ?_ | (refine ifs (fun h => ?_) (fun h => ?_) <;> try (exfalso; first | omega | with_reducible first | contradiction | exact h rfl)))
 all_goals (conv => whnf)
 · rw [e4 (by omega)]
   exact fin_g (A := [⟨g, _⟩]) (.blk takeC .nil) ⟨rfl, rfl⟩
 · rw [e2 (by omega) (by unfold seqOk; omega)]
   exact fin_g (A := [⟨g, _⟩]) (.blk takeC .nil) ⟨rfl, rfl⟩
 · rw [e2 (by omega) (by unfold seqOk; omega)]
   exact fin_g (A := [⟨g, _⟩]) (.blk takeC .nil) ⟨rfl, rfl⟩
 rw [e0 (by omega) (by unfold seqOk; omega)]
 refine loop_rule [21, 3] (fun vs M m => ∃ (k : Nat) (last : Int), vs = [.int .i64 k, .int .i64 last] ∧ k ≤ l.length ∧ m = l.length - k ∧ chk last (l.drop k) = chk 160 l ∧ M = [⟨g, .row (flatV l ++ junk) T⟩]) rfl ?_ ?_
 · exact fin_g (A := [⟨g, _⟩]) (.blk takeC .nil) ⟨_, 0, 160, rfl, by omega, rfl, rfl, rfl⟩
 rintro vs jk M' m ⟨k, last, rfl, hk, rfl, hR, rfl⟩
 by_cases hk6 : k < l.length
 · have hg := flat_at (junk := junk) hk6
   have hdr : l.drop k = l[k] :: l.drop (k + 1) := List.drop_eq_getElem_cons hk6
   have hck : chk last (l.drop k) = (decide (last < l[k].1 ∧ l[k].1 < 288 ∧ l[k].2.size = 64) && chk l[k].1 (l.drop (k + 1))) := by rw [hdr, chk_cons]
   rw [hck] at hR
   generalize l[k] = p at *
   repeat' ((conv => whnf); first
    | (refine nv (fun z hz => ?_); (try simp at hz); replace hz := hz.symm; subst hz) | refine need (by omega) ?_ | refine ldN_row (n := g) _ hg rfl ?_ | refine nw (fun pn => ?_) | refine ld1_lit ?_ | refine st_lit rfl ?_ | refine need (by first | rfl | omega) ?_ | (refine wr (fun z hz => ?_); (try rw [Int.tdiv_eq_ediv_of_nonneg (by omega)] at hz); rw [w64 (by omega) (by omega)] at hz; subst hz) | (refine ifs (fun h => ?_) (fun h => ?_) <;> try (exfalso; first | omega | with_reducible first | contradiction | exact h rfl)))
   all_goals (conv => whnf)
   all_goals first
    | (rw [decide_eq_true (by omega), Bool.true_and] at hR
       exact ⟨rfl, fin_g (A := [⟨g, _⟩]) (.blk takeC .nil) ⟨l.length - (k + 1), by omega, k + 1, p.1, rfl, by omega, rfl, hR, rfl⟩⟩)
    | (rw [decide_eq_false (by omega), Bool.false_and] at hR
       rw [← hR, if_neg (by decide)]
       exact fin_g (A := [⟨g, _⟩]) (.blk takeC .nil) ⟨rfl, rfl⟩)
 obtain rfl : k = l.length := by omega
 rw [List.drop_length] at hR
 repeat' ((conv => whnf); first
  | (refine ifs (fun h => ?_) (fun h => ?_) <;> try (exfalso; first | omega | with_reducible first | contradiction | exact h rfl)))
 all_goals (conv => whnf)
 rw [← hR, chk_nil, if_pos rfl]
 exact fin_all ⟨rfl, rfl⟩
theorem rlayP (seq : Int) (root : Dg) (g c : Nat) (l : List (Int × ByteArray)) (junk : List Value) (T : TypeId) (h1 : 1 ≤ l.length) (hck : chkE seq l = 0) :
 Fnc Tryz.prog 178 [.agg (rcP seq root (.slice (some ⟨g, 0, none⟩) l.length c)).toArray] [⟨g, .row (flatV l ++ junk) T⟩]
  (fun e A => ∃ (n cap : Nat) (jk : List Value), e = .returned (.tuple #[.slice (some ⟨n, 0, none⟩) (recLs seq root l).length cap, .int .i64 0]) ∧ A = [⟨g, .row (flatV l ++ junk) T⟩, ⟨n, .row (strV (recLs seq root l) ++ jk) 9⟩]) := by
 have h64 : l.length ≤ 64 := by
  unfold chkE at hck
  split at hck
  · cases hck
  · omega
 have hseq : seqOk seq := by
  unfold chkE at hck
  rw [if_neg (by omega)] at hck
  split at hck
  · cases hck
  · rename_i h; exact Classical.not_not.1 h
 have hc := rcheckP seq root g c l junk T (by omega)
 rw [hck] at hc
 have h4 := Be.put seq 4
 have h2 := Be.put l.length 2
 have hz := recT_size hseq h64 root
 have hb : ∀ bk T, Fnc Tryz.prog 217 [.slice (some ⟨bk, 0, none⟩) 4 4] [⟨bk, .cells [.string ⟨#[114, 99]⟩, .string (Be.putS seq 4), .string (Be.putS l.length 2), .string (str (dl root))] T⟩] (Ret (.string (recN seq l.length root)) [⟨bk, .cells [.string ⟨#[114, 99]⟩, .string (Be.putS seq 4), .string (Be.putS l.length 2), .string (str (dl root))] T⟩]) := fun bk T => by
  rw [recN_eq]
  exact rblock bk T ⟨#[114, 99]⟩ (Be.putS seq 4) (Be.putS l.length 2) (str (dl root)) (by unfold recT at hz; simp only [ByteArray.size_append] at hz; omega)
 refine fn_intro Tryz.func178 (by kernel_rfl) ?_
 repeat' ((conv => whnf); first
  | refine force_of ?_ | refine nw_row (cs' := rcP seq root (.slice (some ⟨g, 0, none⟩) l.length c)) rfl (fun rn => ?_) | refine ldN_whole rcP_len ?_ | refine call_gr hc (.blk takeC .nil) ?_ | refine call_val h4 ?_ | refine call_val h2 ?_ | refine ld1_row rcP_p ?_ | refine ld1_row rcP_0 ?_ | refine nv_eq (a := 1) rfl ?_ | refine nv_eq (a := 32) rfl ?_ | refine b2s_rat (dl root) (rcP_r seq root _) rfl rfl rfl (by rw [dl_len]) ?_ | refine call_gr (hb _ _) (.blk takeC .nil) ?_ | refine nw (fun n => ?_) | refine bld ?_ | refine need (by first | rfl | omega) ?_ | (refine ifs (fun h => ?_) (fun h => ?_) <;> try (exfalso; first | omega | with_reducible first | contradiction | exact h rfl)))
 all_goals (conv => whnf)
 have hat : (ats l).length = l.length := ats_len l
 revert n; intro bn
 refine to_row bn (cs := [.string (recN seq l.length root)]) (cs' := strV [recN seq l.length root] ++ []) rfl ?_
 refine loop_rule [47, 10] (fun vs M m => ∃ (k : Nat) (S : Own), vs = [.int .i64 k, S.val k] ∧ k ≤ l.length ∧ m = l.length - k ∧ S.ok 1 k (intV ((ats l).take k)) ∧
  M = ⟨g, .row (flatV l ++ junk) T⟩ :: ⟨rn, .row (rcP seq root (.slice (some ⟨g, 0, none⟩) l.length c)) 191⟩ :: ⟨bn, .row (strV [recN seq l.length root] ++ []) 9⟩ :: S.blk 3 (intV ((ats l).take k))) rfl ?_ ?_
 · exact fin_g (A := ⟨g, _⟩ :: ⟨rn, _⟩ :: [⟨bn, _⟩]) (.blk takeC (.blk takeC (.blk takeC .nil))) ⟨_, 0, .nil, rfl, by omega, rfl, ⟨rfl, rfl⟩, rfl⟩
 rintro vs jk M' m ⟨k, S, rfl, hk, rfl, hS, rfl⟩
 by_cases hk6 : k < l.length
 · have hg := flat_at (junk := junk) hk6
   have het : (ats l).take (k + 1) = (ats l).take k ++ [(l[k]).1] := by rw [List.take_add_one, List.getElem?_eq_getElem (by omega)]; unfold ats; simp
   have hev : intV ((ats l).take (k + 1)) = intV ((ats l).take k) ++ [.int .i64 (l[k]).1] := by rw [het]; unfold intV; rw [List.map_append]; rfl
   repeat' ((conv => whnf); first
    | (refine nv (fun z hz => ?_); (try simp at hz); replace hz := hz.symm; subst hz) | refine need (by omega) ?_ | refine ldN_row (n := g) _ hg rfl ?_ | (refine app_cells (S := S) (n := k) (m := 1) (e := 3) (xs := intV ((ats l).take k)) (news := [.int .i64 (l[k]).1]) rfl rfl rfl rfl rfl hS rfl (by intro u hu; simp only [List.mem_singleton] at hu; subst hu; rfl) (by show (k + 1) * 8 ≤ _; omega) (by omega) cells_at (fun S' hS' => ?_); rw [← hev] at hS' ⊢) | refine ld1_lit ?_ | refine nw (fun n => ?_) | refine bld ?_ | refine st_lit rfl ?_ | refine need (by first | rfl | omega) ?_ | (refine wr (fun z hz => ?_); (try rw [Int.tdiv_eq_ediv_of_nonneg (by omega)] at hz); rw [w64 (by omega) (by omega)] at hz; subst hz) | (refine ifs (fun h => ?_) (fun h => ?_) <;> try (exfalso; first | omega | with_reducible first | contradiction | exact h rfl)))
   all_goals (conv => whnf)
   all_goals exact ⟨rfl, fin_g (A := ⟨g, _⟩ :: ⟨rn, _⟩ :: ⟨bn, _⟩ :: S'.blk 3 (intV ((ats l).take (k + 1)))) (.blk takeC (.blk takeC (.blk takeC (.one takeE)))) ⟨l.length - (k + 1), by omega, k + 1, S', rfl, by omega, rfl, hS', rfl⟩⟩
 obtain rfl : k = l.length := by omega
 rw [List.take_of_length_le (by omega)] at hS ⊢
 cases S with
 | nil => exact absurd hS.2 (by omega)
 | at_ g2 c2 jk2 =>
 have hcap : l.length ≤ c2 := hS.2.1
 have hrow : ∀ o m, o + m ≤ l.length → (((intV (ats l) ++ jk2).drop o).take ((ats l).drop o |>.take m |> intV).length) = intV (((ats l).drop o).take m) := fun o m hm => by
  have hlen : (intV (ats l)).length = l.length := by unfold intV; rw [List.length_map, hat]
  have hl2 : (intV (((ats l).drop o).take m)).length = m := by unfold intV; rw [List.length_map, List.length_take, List.length_drop, hat]; omega
  rw [hl2, List.drop_append_of_le_length (by omega), List.take_append_of_le_length (by rw [List.length_drop]; omega)]
  unfold intV
  rw [List.map_take, List.map_drop]
 repeat' ((conv => whnf); first
  | (refine ifs (fun h => ?_) (fun h => ?_) <;> try (exfalso; first | omega | with_reducible first | contradiction | exact h rfl)))
 all_goals (conv => whnf)
 refine loop_rule [10, 9] (fun vs M m => ∃ (j o q : Nat) (S2 : Own), vs = [.slice (some ⟨g2, q, none⟩) (l.length - o) (c2 - o), S2.val (1 + j)] ∧ o = min (32 * j) l.length ∧ (o < l.length → q = o) ∧ j ≤ (l.length + 31) / 32 ∧ m = (l.length + 31) / 32 - j ∧ S2.ok 1 (1 + j) (strV (recN seq l.length root :: idxs (ats l) j)) ∧
  M = ⟨g, .row (flatV l ++ junk) T⟩ :: ⟨rn, .row (rcP seq root (.slice (some ⟨g, 0, none⟩) l.length c)) 191⟩ :: ⟨g2, .row (intV (ats l) ++ jk2) 3⟩ :: S2.blk 9 (strV (recN seq l.length root :: idxs (ats l) j))) rfl ?_ ?_
 · exact fin_g (A := ⟨g, _⟩ :: ⟨rn, _⟩ :: (Own.at_ g2 c2 jk2).blk 3 (intV (ats l)) ++ [⟨bn, _⟩]) (.blk takeC (.blk takeC (.grp takeE (.blk takeC .nil)))) ⟨_, 0, 0, 0, .at_ bn 1 [], rfl, by omega, fun _ => rfl, by omega, rfl, ⟨rfl, Nat.le_refl 1, rfl⟩, rfl⟩
 rintro vs jk3 M' m ⟨j, o, q, S2, rfl, ho, hq, hj, rfl, hS2, rfl⟩
 by_cases hk6 : o < l.length
 · obtain rfl := hq hk6
   have hj2 : j < (l.length + 31) / 32 := by omega
   have hstep : ∀ w : Nat, w = min 32 (l.length - q) → ∃ xs, xs = ((ats l).drop q).take w ∧ xs.length = w ∧ q + w = min (32 * (j + 1)) l.length ∧
    Fnc Tryz.prog 67 [.int .i64 2, .slice (some ⟨g2, q, none⟩) w w] [⟨g2, .ro q (intV xs)⟩] (Ret (.tuple #[.string (Be.rowS 2 xs), .int .i64 (Be.rowE 2 xs)]) [⟨g2, .ro q (intV xs)⟩]) ∧ ((intV (ats l) ++ jk2).drop q).take (intV xs).length = intV xs ∧ idxs (ats l) (j + 1) = idxs (ats l) j ++ [ixB xs] ∧ (Be.rowS 2 xs).size ≤ 64 := fun w hw => by
    refine ⟨((ats l).drop q).take w, rfl, by rw [List.length_take, List.length_drop, hat]; omega, by omega, ?_, hrow q w (by omega), ?_, ?_⟩
    · have h := Be.row 2 (((ats l).drop q).take w) (.at_ g2 q w) trivial (by rw [List.length_take]; omega)
      rw [show (((ats l).drop q).take w).length = w by rw [List.length_take, List.length_drop, hat]; omega] at h
      exact h
    · rw [idxs_s]
      congr 2
      unfold ixB
      congr 2
      rw [show 32 * j = q by omega]
      rcases Nat.lt_or_ge 32 (l.length - q) with h3 | h3
      · rw [hw, Nat.min_eq_left (by omega)]
      · rw [hw, Nat.min_eq_right h3, List.take_of_length_le (by rw [List.length_drop, hat]; omega), List.take_of_length_le (by rw [List.length_drop, hat]; omega)]
    · exact row2_le (by rw [List.length_take]; omega)
   repeat' ((conv => whnf); first
    | (refine ifs (fun h => ?_) (fun h => ?_) <;> try (exfalso; first | omega | with_reducible first | contradiction | exact h rfl)))
   all_goals (conv => whnf)
   · obtain ⟨xs, _, hxl, hqw, hrw, hro, hix, hsz⟩ := hstep 32 (by omega)
     have hb1 : ∀ bk T, Fnc Tryz.prog 217 [.slice (some ⟨bk, 0, none⟩) 1 1] [⟨bk, .cells [.string (Be.rowS 2 xs)] T⟩] (Ret (.string (ixB xs)) [⟨bk, .cells [.string (Be.rowS 2 xs)] T⟩]) := fun bk T => by
      unfold ixB; exact rblock1 bk T (Be.rowS 2 xs) hsz
     repeat' ((conv => whnf); first
      | refine slice3 (h := 32) (m := 32) rfl rfl rfl rfl rfl rfl (by omega) (by omega) ?_ | refine call_rosub hrw hro ?_ | refine call_gr (hb1 _ _) (.blk takeC .nil) ?_ | (refine app_cells (S := S2) (n := 1 + j) (m := 1) (e := 9) (xs := strV (recN seq l.length root :: idxs (ats l) j)) (news := [.string (ixB xs)]) rfl rfl rfl rfl rfl hS2 rfl (by intro u hu; simp only [List.mem_singleton] at hu; subst hu; rfl) (by show (1 + j + 1) * 16 ≤ _; omega) (by omega) cells_at (fun S' hS' => ?_)) | (refine nv (fun q' hq' => ?_); refine nv_eq (a := l.length - (q + 32)) (by omega) ?_; refine nv_eq (a := c2 - (q + 32)) (by omega) ?_) | refine nw (fun n => ?_) | refine bld ?_ | refine need (by first | rfl | omega) ?_)
     all_goals (conv => whnf)
     all_goals
      rw [← strV_snoc, List.cons_append, ← hix] at hS'
      exact ⟨rfl, fin_g (A := ⟨g, _⟩ :: ⟨rn, _⟩ :: ⟨g2, _⟩ :: S'.blk 9 _) (.blk takeC (.blk takeC (.blk takeC (.one takeE)))) ⟨(l.length + 31) / 32 - (j + 1), by omega, j + 1, q + 32, q', S', rfl, hqw, fun hlt => by rw [hq', if_neg (by omega)]; omega, by omega, rfl, by rw [show 1 + (j + 1) = 1 + j + 1 by omega]; exact hS', by rw [hix, ← List.cons_append, strV_snoc]⟩⟩
   · obtain ⟨xs, _, hxl, hqw, hrw, hro, hix, hsz⟩ := hstep (l.length - q) (by omega)
     have hb1 : ∀ bk T, Fnc Tryz.prog 217 [.slice (some ⟨bk, 0, none⟩) 1 1] [⟨bk, .cells [.string (Be.rowS 2 xs)] T⟩] (Ret (.string (ixB xs)) [⟨bk, .cells [.string (Be.rowS 2 xs)] T⟩]) := fun bk T => by
      unfold ixB; exact rblock1 bk T (Be.rowS 2 xs) hsz
     repeat' ((conv => whnf); first
      | refine slice3 (h := (l.length - q)) (m := (l.length - q)) rfl rfl rfl rfl rfl rfl (by omega) (by omega) ?_ | refine call_rosub hrw hro ?_ | refine call_gr (hb1 _ _) (.blk takeC .nil) ?_ | (refine app_cells (S := S2) (n := 1 + j) (m := 1) (e := 9) (xs := strV (recN seq l.length root :: idxs (ats l) j)) (news := [.string (ixB xs)]) rfl rfl rfl rfl rfl hS2 rfl (by intro u hu; simp only [List.mem_singleton] at hu; subst hu; rfl) (by show (1 + j + 1) * 16 ≤ _; omega) (by omega) cells_at (fun S' hS' => ?_)) | (refine nv (fun q' hq' => ?_); refine nv_eq (a := l.length - (q + (l.length - q))) (by omega) ?_; refine nv_eq (a := c2 - (q + (l.length - q))) (by omega) ?_) | refine nw (fun n => ?_) | refine bld ?_ | refine need (by first | rfl | omega) ?_)
     all_goals (conv => whnf)
     all_goals
      rw [← strV_snoc, List.cons_append, ← hix] at hS'
      exact ⟨rfl, fin_g (A := ⟨g, _⟩ :: ⟨rn, _⟩ :: ⟨g2, _⟩ :: S'.blk 9 _) (.blk takeC (.blk takeC (.blk takeC (.one takeE)))) ⟨(l.length + 31) / 32 - (j + 1), by omega, j + 1, q + (l.length - q), q', S', rfl, hqw, fun hlt => by rw [hq', if_neg (by omega)]; omega, by omega, rfl, by rw [show 1 + (j + 1) = 1 + j + 1 by omega]; exact hS', by rw [hix, ← List.cons_append, strV_snoc]⟩⟩
 have hj3 : j = (l.length + 31) / 32 := by omega
 rw [hj3] at hS2 ⊢
 repeat' ((conv => whnf); first
  | refine ld1_row (n := rn) rcP_p ?_ | (refine ifs (fun h => ?_) (fun h => ?_) <;> try (exfalso; first | omega | with_reducible first | contradiction | exact h rfl)))
 all_goals (conv => whnf)
 have hsn : ∀ k (hk : k < l.length), recN seq l.length root :: (idxs (ats l) ((l.length + 31) / 32) ++ (bods l).take (k + 1)) = (recN seq l.length root :: (idxs (ats l) ((l.length + 31) / 32) ++ (bods l).take k)) ++ [(l[k]).2] := fun k hk => by
  have hbl : (bods l).length = l.length := by unfold bods; simp
  rw [List.take_add_one, List.getElem?_eq_getElem (by omega)]
  unfold bods
  simp
 refine loop_rule [83, 9] (fun vs M m => ∃ (k : Nat) (S3 : Own), vs = [.int .i64 k, S3.val (1 + (l.length + 31) / 32 + k)] ∧ k ≤ l.length ∧ m = l.length - k ∧ S3.ok 1 (1 + (l.length + 31) / 32 + k) (strV (recN seq l.length root :: (idxs (ats l) ((l.length + 31) / 32) ++ (bods l).take k))) ∧
  M = ⟨g, .row (flatV l ++ junk) T⟩ :: S3.blk 9 (strV (recN seq l.length root :: (idxs (ats l) ((l.length + 31) / 32) ++ (bods l).take k)))) rfl ?_ ?_
 · exact fin_g (A := ⟨g, _⟩ :: S2.blk 9 (strV (recN seq l.length root :: idxs (ats l) ((l.length + 31) / 32)))) (.blk takeC (.one takeE)) ⟨_, 0, S2, rfl, by omega, rfl, by rw [List.take_zero, List.append_nil]; exact hS2, by rw [List.take_zero, List.append_nil]⟩
 rintro vs jk4 M' m ⟨k, S3, rfl, hk, rfl, hS3, rfl⟩
 by_cases hk6 : k < l.length
 · have hg := flat_at (junk := junk) hk6
   have hs3 := hsn k hk6
   repeat' ((conv => whnf); first
    | (refine nv (fun z hz => ?_); (try simp at hz); replace hz := hz.symm; subst hz) | refine need (by omega) ?_ | refine ldN_row (n := g) _ hg rfl ?_ | (refine app_cells (S := S3) (n := 1 + (l.length + 31) / 32 + k) (m := 1) (e := 9) (xs := strV (recN seq l.length root :: (idxs (ats l) ((l.length + 31) / 32) ++ (bods l).take k))) (news := [.string (l[k]).2]) rfl rfl rfl rfl rfl hS3 rfl (by intro u hu; simp only [List.mem_singleton] at hu; subst hu; rfl) (by show (1 + (l.length + 31) / 32 + k + 1) * 16 ≤ _; omega) (by omega) cells_at (fun S' hS' => ?_); rw [← strV_snoc, ← hs3] at hS' ⊢) | refine ld1_lit ?_ | refine nw (fun n => ?_) | refine bld ?_ | refine st_lit rfl ?_ | refine need (by first | rfl | omega) ?_ | (refine wr (fun z hz => ?_); (try rw [Int.tdiv_eq_ediv_of_nonneg (by omega)] at hz); rw [w64 (by omega) (by omega)] at hz; subst hz) | (refine ifs (fun h => ?_) (fun h => ?_) <;> try (exfalso; first | omega | with_reducible first | contradiction | exact h rfl)))
   all_goals (conv => whnf)
   all_goals exact ⟨rfl, fin_g (A := ⟨g, _⟩ :: S'.blk 9 _) (.blk takeC (.one takeE)) ⟨l.length - (k + 1), by omega, k + 1, S', rfl, by omega, rfl, hS', rfl⟩⟩
 obtain rfl : k = l.length := by omega
 rw [List.take_of_length_le (by unfold bods; simp)] at hS3 ⊢
 cases S3 with
 | nil => exact absurd hS3.2 (by omega)
 | at_ n3 c3 jk5 =>
 repeat' ((conv => whnf); first
  | (refine ifs (fun h => ?_) (fun h => ?_) <;> try (exfalso; first | omega | with_reducible first | contradiction | exact h rfl)))
 all_goals (conv => whnf)
 exact fin_g (A := ⟨g, _⟩ :: (Own.at_ n3 c3 jk5).blk 9 (strV (recN seq l.length root :: (idxs (ats l) ((l.length + 31) / 32) ++ bods l)))) (.blk takeC (.one takeE)) ⟨n3, c3, jk5, by rw [recLs_len]; rfl, rfl⟩
end Rec
end Go.Proofs.YtkjamonkohpcnaaGreat
