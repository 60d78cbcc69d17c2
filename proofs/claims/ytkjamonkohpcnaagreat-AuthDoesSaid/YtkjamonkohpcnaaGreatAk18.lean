/- Texts of this proof, merged. -/
import Derived.Test.YtkjamonkohpcnaaGreatAk17
import Derived.Test.YtkjamonkohpcnaaGreatAk4
import Derived.ScopeJumps
import Derived.Test.YtkjamonkohpcnaaGreatAk5
import Derived.Test.YtkjamonkohpcnaaGreatAk15
set_option linter.unusedVariables false
set_option linter.unusedSimpArgs false
set_option linter.unusedSectionVars false
set_option maxRecDepth 100000
set_option maxHeartbeats 16000000
namespace Go.Proofs.YtkjamonkohpcnaaGreat
namespace Stg
open Go Ev Sha Aes Orc Node Rec Chn Jrn Cau Sto Srt
open Rig (Fnc_takeR RigP Rg rgM readR writeR flushR setRegR z64 app_of tick comes write_ flush_ setreg_ mayE RigA)
open Tree (TreP TreA Tre treM shB mpB treC)
attribute [local irreducible] dgV D jC wrF rcC stC regC RgV.lay rgM setRegR writeR rcP recB begJ beginG bare BareT setG treC flatV Instr.makeMap mapK Tree.vS
theorem sclear (sn mn : Nat) (l : List (Int × ByteArray)) : Fnc Tryz.prog 223 [pt sn] [shB sn mn, mpB mn l] (fun e A => ∃ m : Nat, e = .returned (.tuple #[]) ∧ A = [shB sn m, mpB m []]) := by
 refine fn_intro Tryz.func223 (by kernel_rfl) ?_
 repeat' ((conv => whnf); first
  | refine Ev.map_make kI (fun r => ?_) | refine st_lit rfl ?_ | refine need (by first | rfl | omega) ?_)
 all_goals (conv => whnf)
 exact fin_g (A := [shB sn r, ⟨r, _⟩]) (.blk takeC (.blk takeC .nil)) ⟨r, rfl, by unfold mpB Tree.vS; rfl⟩
def TreA.wm (A : TreA) (m : Nat) : TreA := { A with mn := m }
def TreP.clr (t : TreP) : TreP := { t with sheet := [] }
theorem tdone (tn : Nat) (A : TreA) (t : TreP) : Fnc Tryz.prog 184 [pt tn] (treM tn ⟨A, t⟩) (fun e M => ∃ m : Nat, e = .returned (.tuple #[]) ∧ M = treM tn ⟨TreA.wm A m, TreP.clr t⟩) := by
 have h := sclear A.sn A.mn t.sheet
 unfold treM
 refine fn_intro Tryz.func184 (by kernel_rfl) ?_
 repeat' ((conv => whnf); first
  | refine ld1_row (n := tn) Tree.treC_s ?_ | (refine call_g h (.blk takeC (.blk takeC .nil)) (fun e A' hq => ?_); obtain ⟨m, h1, h2⟩ := hq; subst h1; subst h2))
 all_goals (conv => whnf)
 exact fin_g (A := [⟨tn, _⟩, shB A.sn m, mpB m [], mpB A.kn t.known]) (.blk takeC (.blk takeC (.blk takeC (.blk takeC .nil)))) ⟨m, rfl, rfl⟩
def hmS (d : Int) (l : List (Int × ByteArray)) : Nat → RigP → RigP × Int := fun i r => writeR r d ((l[i]?).getD (0, ByteArray.empty)).1 ((l[i]?).getD (0, ByteArray.empty)).2
def hmG (r : RigP) (d : Int) (l : List (Int × ByteArray)) : RigP × Int := lp (hmS d (srt l)) l.length 0 r
def HmQ (a : RigA) (q : RigP × Int) (sn tn : Nat) (x : StP) (A : TreA) (t : TreP) : Ending → List Blk → Prop := fun e M =>
 (q.2 = 0 ∧ ∃ m : Nat, e = .returned (.tuple #[]) ∧ M = rgM ⟨a, q.1⟩ ++ (stB sn x :: treM tn ⟨TreA.wm A m, TreP.clr t⟩)) ∨ (q.2 ≠ 0 ∧ e = .panicked (pe q.2) ∧ M = rgM ⟨a, q.1⟩ ++ (stB sn x :: treM tn ⟨A, t⟩))
def StP.tp (x : StP) (d : Int) : Option Addr := if d = 0 then x.t0 else x.t1
theorem homeg (a : RigA) (r : RigP) (sn tn : Nat) (x : StP) (d : Int) (A : TreA) (t : TreP) (hrn : x.rn = a.rn) (hd : d = 0 ∨ d = 1) (ht : StP.tp x d = some ⟨tn, 0, none⟩) (hn : (t.sheet.map (·.1)).Nodup) (h1 : 1 ≤ t.sheet.length) (h2 : t.sheet.length ≤ 1000) :
 Fnc Tryz.prog 128 [pt sn, .int .i64 d] (rgM ⟨a, r⟩ ++ (stB sn x :: treM tn ⟨A, t⟩)) (HmQ a (hmG r d t.sheet) sn tn x A t) := by
 have hsh := Tree.tsheet tn ⟨A, t⟩
 have hp := puts_ A.sn A.mn t.sheet hn h1 h2
 have hdn := tdone tn A t
 have hw := fun (r : RigP) (i : Int) (b : ByteArray) => write_ ⟨a, r⟩ d i b
 have hop : treM tn ⟨A, t⟩ = [Tree.tB tn A t.d t.root, shB A.sn A.mn, mpB A.mn t.sheet, mpB A.kn t.known] := rfl
 have hlen := srt_len t.sheet
 unfold HmQ hmG
 simp only [← hrn] at hw
 rw [hop] at hsh hdn ⊢
 have hw2 : ∀ (r : RigP) (i : Int) (b : ByteArray), Fnc Tryz.prog 92 [pt x.rn, .int .i64 d, .int .i64 i, .string b] (rgM ⟨a, r⟩) (Ret (.int .i64 (writeR r d i b).2) (rgM ⟨a, (writeR r d i b).1⟩)) := hw
 rcases hd with rfl | rfl
 all_goals
  refine fn_intro Tryz.func128 (by kernel_rfl) ?_
  repeat' ((conv => whnf); first
   | refine ld1_row (n := sn) stC_0 ?_ | refine nv_eq (a := 6) rfl ?_ | refine nv_eq (a := 8) rfl ?_ | refine ld1_row (n := sn) (v := pt tn) (by rw [stC_7]; show some (Value.pointer (StP.tp x 0)) = _; rw [ht]) ?_ | refine ld1_row (n := sn) (v := pt tn) (by rw [stC_9]; show some (Value.pointer (StP.tp x 1)) = _; rw [ht]) ?_ | refine call_gr hsh (.blk takeC (.blk takeC (.blk takeC (.blk takeC .nil)))) ?_ | (refine call_g hp (.blk takeC (.blk takeC .nil)) (fun e A' hq => ?_); obtain ⟨g, cap, jk, q1, q2⟩ := hq; subst q1; subst q2) | refine need (by first | rfl | omega) ?_)
  all_goals (conv => whnf)
 · refine loop_rule [22] (fun vs M m => ∃ (k : Nat) (r' : RigP), vs = [.int .i64 k] ∧ k ≤ t.sheet.length ∧ m = t.sheet.length - k ∧ lp (hmS 0 (srt t.sheet)) (t.sheet.length - k) k r' = lp (hmS 0 (srt t.sheet)) t.sheet.length 0 r ∧
    M = rgM ⟨a, r'⟩ ++ (stB sn x :: [Tree.tB tn A t.d t.root, shB A.sn A.mn, mpB A.mn t.sheet, mpB A.kn t.known, ⟨g, .row (flatV (srt t.sheet) ++ jk) 117⟩])) rfl ?_ ?_
   · exact fin_g (A := rgM _ ++ (stB sn x :: [Tree.tB tn A t.d t.root, shB A.sn A.mn, mpB A.mn t.sheet, mpB A.kn t.known, ⟨g, _⟩])) (.grp takeG (.blk takeC (.blk takeC (.blk takeC (.blk takeC (.blk takeC (.blk takeC .nil))))))) ⟨_, 0, r, rfl, by omega, rfl, rfl, rfl⟩
   rintro vs junk M' m ⟨k, r', rfl, hk, rfl, hR, rfl⟩
   by_cases hk6 : k < t.sheet.length
   · have hks : k < (srt t.sheet).length := by omega
     have hg := Rec.flat_at (junk := jk) hks
     have hF : hmS 0 (srt t.sheet) k r' = writeR r' 0 ((srt t.sheet)[k]).1 ((srt t.sheet)[k]).2 := by unfold hmS; rw [List.getElem?_eq_getElem hks]; rfl
     have hf2 := hw2 r' ((srt t.sheet)[k]).1 ((srt t.sheet)[k]).2
     rw [← hF] at hf2
     rw [show t.sheet.length - k = t.sheet.length - (k + 1) + 1 by omega] at hR
     repeat' ((conv => whnf); first
      | (refine nv (fun z hz => ?_); (try simp at hz); replace hz := hz.symm; subst hz) | refine need (by omega) ?_ | refine ldN_row (n := g) _ hg rfl ?_ | refine nw (fun pn => ?_) | refine call_gr hf2 (.one takeG) ?_ | (refine call_g (must_any _) .nil (fun e A' hq => ?_); obtain ⟨p0, ⟨p1, p2⟩ | ⟨p1, p2⟩⟩ := hq <;> subst p2 <;> subst p0) | refine ld1_lit ?_ | refine st_lit rfl ?_ | refine need (by first | rfl | omega) ?_ | (refine wr (fun z hz => ?_); (try rw [Int.tdiv_eq_ediv_of_nonneg (by omega)] at hz); rw [w64 (by omega) (by omega)] at hz; subst hz) | (refine ifs (fun h => ?_) (fun h => ?_) <;> try (exfalso; first | omega | with_reducible first | contradiction | exact h rfl)))
     all_goals (conv => whnf)
     · rw [lp_ok p1] at hR
       exact ⟨rfl, fin_g (A := rgM _ ++ (stB sn x :: [Tree.tB tn A t.d t.root, shB A.sn A.mn, mpB A.mn t.sheet, mpB A.kn t.known, ⟨g, _⟩])) (.grp takeG (.blk takeC (.blk takeC (.blk takeC (.blk takeC (.blk takeC (.blk takeC .nil))))))) ⟨t.sheet.length - (k + 1), by omega, k + 1, _, rfl, by omega, rfl, hR, rfl⟩⟩
     · rw [lp_no p1] at hR
       rw [← hR]
       exact fin_g (A := rgM _ ++ (stB sn x :: [Tree.tB tn A t.d t.root, shB A.sn A.mn, mpB A.mn t.sheet, mpB A.kn t.known])) (.grp takeG (.blk takeC (.blk takeC (.blk takeC (.blk takeC (.blk takeC .nil)))))) (.inr ⟨p1, rfl, rfl⟩)
   obtain rfl : k = t.sheet.length := by omega
   rw [Nat.sub_self, lp_0] at hR
   repeat' ((conv => whnf); first
    | refine nv_eq (a := 6) rfl ?_ | refine ld1_row (n := sn) (v := pt tn) (by rw [stC_7]; show some (Value.pointer (StP.tp x 0)) = _; rw [ht]) ?_ | (refine call_g hdn (.blk takeC (.blk takeC (.blk takeC (.blk takeC .nil)))) (fun e A' hq => ?_); obtain ⟨m, q1, q2⟩ := hq; subst q1; subst q2) | refine need (by first | rfl | omega) ?_ | (refine ifs (fun h => ?_) (fun h => ?_) <;> try (exfalso; first | omega | with_reducible first | contradiction | exact h rfl)))
   all_goals (conv => whnf)
   rw [← hR]
   exact fin_g (A := rgM _ ++ (stB sn x :: treM tn ⟨TreA.wm A m, TreP.clr t⟩)) (.grp takeG (.blk takeC (.one takeG))) (.inl ⟨rfl, m, rfl, rfl⟩)
 · refine loop_rule [22] (fun vs M m => ∃ (k : Nat) (r' : RigP), vs = [.int .i64 k] ∧ k ≤ t.sheet.length ∧ m = t.sheet.length - k ∧ lp (hmS 1 (srt t.sheet)) (t.sheet.length - k) k r' = lp (hmS 1 (srt t.sheet)) t.sheet.length 0 r ∧
    M = rgM ⟨a, r'⟩ ++ (stB sn x :: [Tree.tB tn A t.d t.root, shB A.sn A.mn, mpB A.mn t.sheet, mpB A.kn t.known, ⟨g, .row (flatV (srt t.sheet) ++ jk) 117⟩])) rfl ?_ ?_
   · exact fin_g (A := rgM _ ++ (stB sn x :: [Tree.tB tn A t.d t.root, shB A.sn A.mn, mpB A.mn t.sheet, mpB A.kn t.known, ⟨g, _⟩])) (.grp takeG (.blk takeC (.blk takeC (.blk takeC (.blk takeC (.blk takeC (.blk takeC .nil))))))) ⟨_, 0, r, rfl, by omega, rfl, rfl, rfl⟩
   rintro vs junk M' m ⟨k, r', rfl, hk, rfl, hR, rfl⟩
   by_cases hk6 : k < t.sheet.length
   · have hks : k < (srt t.sheet).length := by omega
     have hg := Rec.flat_at (junk := jk) hks
     have hF : hmS 1 (srt t.sheet) k r' = writeR r' 1 ((srt t.sheet)[k]).1 ((srt t.sheet)[k]).2 := by unfold hmS; rw [List.getElem?_eq_getElem hks]; rfl
     have hf2 := hw2 r' ((srt t.sheet)[k]).1 ((srt t.sheet)[k]).2
     rw [← hF] at hf2
     rw [show t.sheet.length - k = t.sheet.length - (k + 1) + 1 by omega] at hR
     repeat' ((conv => whnf); first
      | (refine nv (fun z hz => ?_); (try simp at hz); replace hz := hz.symm; subst hz) | refine need (by omega) ?_ | refine ldN_row (n := g) _ hg rfl ?_ | refine nw (fun pn => ?_) | refine call_gr hf2 (.one takeG) ?_ | (refine call_g (must_any _) .nil (fun e A' hq => ?_); obtain ⟨p0, ⟨p1, p2⟩ | ⟨p1, p2⟩⟩ := hq <;> subst p2 <;> subst p0) | refine ld1_lit ?_ | refine st_lit rfl ?_ | refine need (by first | rfl | omega) ?_ | (refine wr (fun z hz => ?_); (try rw [Int.tdiv_eq_ediv_of_nonneg (by omega)] at hz); rw [w64 (by omega) (by omega)] at hz; subst hz) | (refine ifs (fun h => ?_) (fun h => ?_) <;> try (exfalso; first | omega | with_reducible first | contradiction | exact h rfl)))
     all_goals (conv => whnf)
     · rw [lp_ok p1] at hR
       exact ⟨rfl, fin_g (A := rgM _ ++ (stB sn x :: [Tree.tB tn A t.d t.root, shB A.sn A.mn, mpB A.mn t.sheet, mpB A.kn t.known, ⟨g, _⟩])) (.grp takeG (.blk takeC (.blk takeC (.blk takeC (.blk takeC (.blk takeC (.blk takeC .nil))))))) ⟨t.sheet.length - (k + 1), by omega, k + 1, _, rfl, by omega, rfl, hR, rfl⟩⟩
     · rw [lp_no p1] at hR
       rw [← hR]
       exact fin_g (A := rgM _ ++ (stB sn x :: [Tree.tB tn A t.d t.root, shB A.sn A.mn, mpB A.mn t.sheet, mpB A.kn t.known])) (.grp takeG (.blk takeC (.blk takeC (.blk takeC (.blk takeC (.blk takeC .nil)))))) (.inr ⟨p1, rfl, rfl⟩)
   obtain rfl : k = t.sheet.length := by omega
   rw [Nat.sub_self, lp_0] at hR
   repeat' ((conv => whnf); first
    | refine nv_eq (a := 8) rfl ?_ | refine ld1_row (n := sn) (v := pt tn) (by rw [stC_9]; show some (Value.pointer (StP.tp x 1)) = _; rw [ht]) ?_ | (refine call_g hdn (.blk takeC (.blk takeC (.blk takeC (.blk takeC .nil)))) (fun e A' hq => ?_); obtain ⟨m, q1, q2⟩ := hq; subst q1; subst q2) | refine need (by first | rfl | omega) ?_ | (refine ifs (fun h => ?_) (fun h => ?_) <;> try (exfalso; first | omega | with_reducible first | contradiction | exact h rfl)))
   all_goals (conv => whnf)
   rw [← hR]
   exact fin_g (A := rgM _ ++ (stB sn x :: treM tn ⟨TreA.wm A m, TreP.clr t⟩)) (.grp takeG (.blk takeC (.one takeG))) (.inl ⟨rfl, m, rfl, rfl⟩)
end Stg
namespace Stg
open Go Ev Sha Aes Orc Node Rec Chn Jrn Cau Sto Srt
open Rig (Fnc_takeR RigP Rg rgM readR writeR flushR setRegR z64 app_of tick comes write_ flush_ setreg_ mayE RigA)
open Tree (TreP TreA Tre treM shB mpB treC)
attribute [local irreducible] dgV D jC wrF rcC stC regC RgV.lay rgM setRegR writeR rcP recB begJ beginG bare BareT setG treC flatV Builtin.append_ Builtin.len_
abbrev lJ (ln : Nat) (l : List Nat) (jk : List Value) : Blk := ⟨ln, .row ((l.map fun d => .int .i64 (d : Nat)) ++ jk) 3⟩
theorem lJ_get {l : List Nat} {k : Nat} (h : k < l.length) (jk : List Value) : ((l.map fun d => Value.int .i64 (d : Nat)) ++ jk)[k]? = some (.int .i64 (l[k] : Nat)) := by
 rw [List.getElem?_append_left (by rw [List.length_map]; exact h), List.getElem?_map, List.getElem?_eq_getElem h]; rfl
theorem flushj (a : RigA) (r : RigP) (sn ln c : Nat) (x : StP) (l : List Nat) (jk : List Value) (hrn : x.rn = a.rn) (hl : l.length ≤ 2) :
 Fnc Tryz.prog 95 [pt sn, .slice (some ⟨ln, 0, none⟩) l.length c] (rgM ⟨a, r⟩ ++ [stB sn x, lJ ln l jk])
  (fun e M => Pe (lp (flG l) l.length 0 r).2 e ∧ M = rgM ⟨a, (lp (flG l) l.length 0 r).1⟩ ++ [stB sn x, lJ ln l jk]) := by
 have hf := fun (r : RigP) (d : Nat) => flush_ ⟨a, r⟩ d
 simp only [← hrn] at hf
 refine fn_intro Tryz.func95 (by kernel_rfl) ?_
 repeat' ((conv => whnf); first
  | fail)
 all_goals (conv => whnf)
 refine loop_rule [8] (fun vs M m => ∃ (k : Nat) (r' : RigP), vs = [.int .i64 k] ∧ k ≤ l.length ∧ m = l.length - k ∧ lp (flG l) (l.length - k) k r' = lp (flG l) l.length 0 r ∧ M = rgM ⟨a, r'⟩ ++ [stB sn x, lJ ln l jk]) rfl ?_ ?_
 · exact fin_all ⟨_, 0, r, rfl, by omega, rfl, by rw [Nat.sub_zero], rfl⟩
 rintro vs junk M' m ⟨k, r', rfl, hk, rfl, hR, rfl⟩
 by_cases hk6 : k < l.length
 · have hg := lJ_get hk6 jk
   have hF : flG l k r' = flushR r' (l[k] : Nat) := by unfold flG; rw [List.getElem?_eq_getElem hk6]; rfl
   have hf2 := hf r' l[k]
   rw [← hF] at hf2
   rw [show l.length - k = l.length - (k + 1) + 1 by omega] at hR
   repeat' ((conv => whnf); first
    | (refine nv (fun z hz => ?_); (try simp at hz); replace hz := hz.symm; subst hz) | refine need (by simp; omega) ?_ | refine ld1_row hg ?_ | refine ld1_row (n := sn) stC_0 ?_ | refine call_gr hf2 (.one takeG) ?_ | (refine call_g (must_any _) .nil (fun e A' hq => ?_); obtain ⟨p0, ⟨p1, p2⟩ | ⟨p1, p2⟩⟩ := hq <;> subst p2 <;> subst p0) | (refine wr (fun z hz => ?_); (try rw [Int.tdiv_eq_ediv_of_nonneg (by omega)] at hz); rw [w64 (by omega) (by omega)] at hz; subst hz) | (refine ifs (fun h => ?_) (fun h => ?_) <;> try (exfalso; first | omega | with_reducible first | contradiction | exact h rfl)))
   all_goals (conv => whnf)
   · rw [lp_ok p1] at hR
     exact ⟨rfl, fin_g (A := rgM _ ++ [stB sn x, _]) (.grp takeG (.blk takeC (.blk takeC .nil))) ⟨l.length - (k + 1), by omega, k + 1, _, rfl, by omega, rfl, hR, rfl⟩⟩
   · rw [lp_no p1] at hR
     rw [← hR]
     exact fin_g (A := rgM _ ++ [stB sn x, _]) (.grp takeG (.blk takeC (.blk takeC .nil))) ⟨.inr ⟨p1, rfl⟩, rfl⟩
 obtain rfl : k = l.length := by omega
 rw [Nat.sub_self, lp_0] at hR
 repeat' ((conv => whnf); first
  | (refine ifs (fun h => ?_) (fun h => ?_) <;> try (exfalso; first | omega | with_reducible first | contradiction | exact h rfl)))
 all_goals (conv => whnf)
 rw [← hR]
 exact fin_all ⟨.inl ⟨rfl, rfl⟩, rfl⟩
instance (priority := high) ZipO_nil {M : List Blk} {e : TypeId} {xs : List Value} : ZipO M .nil e xs (fun l => l ++ M) := ⟨⟨[], M, rfl, fun _ => rfl⟩⟩
instance (priority := high) ZipO_at {M : List Blk} {g cap : Nat} {jk : List Value} {e : TypeId} {xs : List Value} : ZipO (⟨g, .row (xs ++ jk) e⟩ :: M) (.at_ g cap jk) e xs (fun l => l ++ M) := ⟨⟨[], M, rfl, fun _ => rfl⟩⟩
theorem tlen (tn : Nat) (A : TreA) (t : TreP) : Fnc Tryz.prog 120 [pt A.sn] (treM tn ⟨A, t⟩) (Ret (.int .i64 t.sheet.length) (treM tn ⟨A, t⟩)) := by
 have h := Tree.slen A.sn A.mn t.sheet
 unfold treM
 exact Fnc_drop (Fnc_takeR h (.blk takeC (.blk takeC .nil))) fun e A' ⟨h1, h2⟩ => by subst h2; exact ⟨⟨_, [], by rw [List.append_nil]; exact (TakesG.perm (M := [_, _, _, _]) (.blk takeC (.blk takeC .nil))).symm, h1, rfl⟩⟩
def wtL (n0 n1 : Nat) : List Nat := if n0 = 0 then (if n1 = 0 then [] else [1]) else (if n1 = 0 then [0] else [0, 1])
def WtQ (l : List Nat) (M : List Blk) : Ending → List Blk → Prop := fun e M' => (l = [] ∧ e = .returned (.slice none 0 0) ∧ M' = M) ∨ (l ≠ [] ∧ ∃ (ln c : Nat) (jk : List Value), e = .returned (.slice (some ⟨ln, 0, none⟩) l.length c) ∧ M' = M ++ [lJ ln l jk])
theorem waitA (sn tn0 tn1 : Nat) (x : StP) (A0 A1 : TreA) (t0 t1 : TreP) (hat : x.is.at_ = true) (ht0 : x.t0 = some ⟨tn0, 0, none⟩) (ht1 : x.t1 = some ⟨tn1, 0, none⟩) (hn : t0.sheet.length = 0) (hm : t1.sheet.length = 0) :
 Fnc Tryz.prog 117 [pt sn] (stB sn x :: (treM tn0 ⟨A0, t0⟩ ++ treM tn1 ⟨A1, t1⟩)) (WtQ [] (stB sn x :: (treM tn0 ⟨A0, t0⟩ ++ treM tn1 ⟨A1, t1⟩))) := by
 have h1 := devices_ sn x hat
 have h2 := Tree.tsheet tn0 ⟨A0, t0⟩
 have h3 := tlen tn0 A0 t0
 have h4 := Tree.tsheet tn1 ⟨A1, t1⟩
 have h5 := tlen tn1 A1 t1
 refine fn_intro Tryz.func117 (by kernel_rfl) ?_
 repeat' ((conv => whnf); first
  | (refine call_g h1 (.blk takeC .nil) (fun e A' hq => ?_); obtain ⟨n, q1, q2⟩ := hq; subst q1; subst q2) | refine loop_n 3 ?_ | refine nv_eq (a := 0) rfl ?_ | refine nv_eq (a := 1) rfl ?_ | refine nv_eq (a := 6) rfl ?_ | refine nv_eq (a := 8) rfl ?_ | refine ld1_row (n := sn) (v := pt tn0) (by rw [stC_7, ht0]) ?_ | refine ld1_row (n := sn) (v := pt tn1) (by rw [stC_9, ht1]) ?_ | refine call_gr h2 (.one takeG) ?_ | refine call_gr h3 (.one takeG) ?_ | refine call_gr h4 (.one takeG) ?_ | refine call_gr h5 (.one takeG) ?_ | refine ld1_lit ?_ | refine need (by first | rfl | omega) ?_ | (refine wr (fun z hz => ?_); (try rw [Int.tdiv_eq_ediv_of_nonneg (by omega)] at hz); rw [w64 (by omega) (by omega)] at hz; subst hz) | (refine ifs (fun h => ?_) (fun h => ?_) <;> try (exfalso; first | omega | with_reducible first | contradiction | exact h rfl)))
 all_goals (conv => whnf)
 exact fin_g (A := stB sn x :: (treM tn0 ⟨A0, t0⟩ ++ treM tn1 ⟨A1, t1⟩)) (.blk takeC (.grp takeG (.one takeG))) (.inl ⟨rfl, rfl, rfl⟩)
theorem waitB (sn tn0 tn1 : Nat) (x : StP) (A0 A1 : TreA) (t0 t1 : TreP) (hat : x.is.at_ = true) (ht0 : x.t0 = some ⟨tn0, 0, none⟩) (ht1 : x.t1 = some ⟨tn1, 0, none⟩) (hn : t0.sheet.length = 0) (hm : t1.sheet.length ≠ 0) :
 Fnc Tryz.prog 117 [pt sn] (stB sn x :: (treM tn0 ⟨A0, t0⟩ ++ treM tn1 ⟨A1, t1⟩)) (WtQ [1] (stB sn x :: (treM tn0 ⟨A0, t0⟩ ++ treM tn1 ⟨A1, t1⟩))) := by
 have h1 := devices_ sn x hat
 have h2 := Tree.tsheet tn0 ⟨A0, t0⟩
 have h3 := tlen tn0 A0 t0
 have h4 := Tree.tsheet tn1 ⟨A1, t1⟩
 have h5 := tlen tn1 A1 t1
 refine fn_intro Tryz.func117 (by kernel_rfl) ?_
 repeat' ((conv => whnf); first
  | (refine call_g h1 (.blk takeC .nil) (fun e A' hq => ?_); obtain ⟨n, q1, q2⟩ := hq; subst q1; subst q2) | refine loop_n 3 ?_ | refine nv_eq (a := 0) rfl ?_ | refine nv_eq (a := 1) rfl ?_ | refine nv_eq (a := 6) rfl ?_ | refine nv_eq (a := 8) rfl ?_ | refine ld1_row (n := sn) (v := pt tn0) (by rw [stC_7, ht0]) ?_ | refine ld1_row (n := sn) (v := pt tn1) (by rw [stC_9, ht1]) ?_ | refine call_gr h2 (.one takeG) ?_ | refine call_gr h3 (.one takeG) ?_ | refine call_gr h4 (.one takeG) ?_ | refine call_gr h5 (.one takeG) ?_ | (refine app_cells (S := Own.nil) (n := 0) (m := 1) (e := 3) (xs := []) (news := [.int .i64 1]) rfl rfl rfl rfl rfl ⟨rfl, rfl⟩ rfl (by intro u hu; simp only [List.mem_singleton] at hu; subst hu; rfl) (by decide) (by decide) cells_at (fun S1 hS1 => ?_); rcases S1 with _ | ⟨g1, cap1, jk1⟩; · exact absurd hS1.2 (by decide)) | refine ld1_lit ?_ | refine nw (fun n => ?_) | refine bld ?_ | refine need (by first | rfl | omega) ?_ | (refine wr (fun z hz => ?_); (try rw [Int.tdiv_eq_ediv_of_nonneg (by omega)] at hz); rw [w64 (by omega) (by omega)] at hz; subst hz) | (refine ifs (fun h => ?_) (fun h => ?_) <;> try (exfalso; first | omega | with_reducible first | contradiction | exact h rfl)))
 all_goals (conv => whnf)
 exact fin_g (A := stB sn x :: (treM tn0 ⟨A0, t0⟩ ++ (treM tn1 ⟨A1, t1⟩ ++ (Own.at_ g1 cap1 jk1).blk 3 ([] ++ [Value.int IntKind.i64 1])))) (.blk takeC (.grp takeG (.grp takeG (.one takeE)))) (.inr ⟨by simp, g1, cap1, jk1, rfl, by rw [List.cons_append, List.append_assoc]; rfl⟩)
theorem waitC (sn tn0 tn1 : Nat) (x : StP) (A0 A1 : TreA) (t0 t1 : TreP) (hat : x.is.at_ = true) (ht0 : x.t0 = some ⟨tn0, 0, none⟩) (ht1 : x.t1 = some ⟨tn1, 0, none⟩) (hn : t0.sheet.length ≠ 0) (hm : t1.sheet.length = 0) :
 Fnc Tryz.prog 117 [pt sn] (stB sn x :: (treM tn0 ⟨A0, t0⟩ ++ treM tn1 ⟨A1, t1⟩)) (WtQ [0] (stB sn x :: (treM tn0 ⟨A0, t0⟩ ++ treM tn1 ⟨A1, t1⟩))) := by
 have h1 := devices_ sn x hat
 have h2 := Tree.tsheet tn0 ⟨A0, t0⟩
 have h3 := tlen tn0 A0 t0
 have h4 := Tree.tsheet tn1 ⟨A1, t1⟩
 have h5 := tlen tn1 A1 t1
 refine fn_intro Tryz.func117 (by kernel_rfl) ?_
 repeat' ((conv => whnf); first
  | (refine call_g h1 (.blk takeC .nil) (fun e A' hq => ?_); obtain ⟨n, q1, q2⟩ := hq; subst q1; subst q2) | refine loop_n 3 ?_ | refine nv_eq (a := 0) rfl ?_ | refine nv_eq (a := 1) rfl ?_ | refine nv_eq (a := 6) rfl ?_ | refine nv_eq (a := 8) rfl ?_ | refine ld1_row (n := sn) (v := pt tn0) (by rw [stC_7, ht0]) ?_ | refine ld1_row (n := sn) (v := pt tn1) (by rw [stC_9, ht1]) ?_ | refine call_gr h2 (.one takeG) ?_ | refine call_gr h3 (.one takeG) ?_ | refine call_gr h4 (.one takeG) ?_ | refine call_gr h5 (.one takeG) ?_ | (refine app_cells (S := Own.nil) (n := 0) (m := 1) (e := 3) (xs := []) (news := [.int .i64 0]) rfl rfl rfl rfl rfl ⟨rfl, rfl⟩ rfl (by intro u hu; simp only [List.mem_singleton] at hu; subst hu; rfl) (by decide) (by decide) cells_at (fun S1 hS1 => ?_); rcases S1 with _ | ⟨g1, cap1, jk1⟩; · exact absurd hS1.2 (by decide)) | refine ld1_lit ?_ | refine nw (fun n => ?_) | refine bld ?_ | refine need (by first | rfl | omega) ?_ | (refine wr (fun z hz => ?_); (try rw [Int.tdiv_eq_ediv_of_nonneg (by omega)] at hz); rw [w64 (by omega) (by omega)] at hz; subst hz) | (refine ifs (fun h => ?_) (fun h => ?_) <;> try (exfalso; first | omega | with_reducible first | contradiction | exact h rfl)))
 all_goals (conv => whnf)
 exact fin_g (A := stB sn x :: (treM tn0 ⟨A0, t0⟩ ++ (treM tn1 ⟨A1, t1⟩ ++ (Own.at_ g1 cap1 jk1).blk 3 ([] ++ [Value.int IntKind.i64 0])))) (.blk takeC (.grp takeG (.grp takeG (.one takeE)))) (.inr ⟨by simp, g1, cap1, jk1, rfl, by rw [List.cons_append, List.append_assoc]; rfl⟩)
theorem waitD (sn tn0 tn1 : Nat) (x : StP) (A0 A1 : TreA) (t0 t1 : TreP) (hat : x.is.at_ = true) (ht0 : x.t0 = some ⟨tn0, 0, none⟩) (ht1 : x.t1 = some ⟨tn1, 0, none⟩) (hn : t0.sheet.length ≠ 0) (hm : t1.sheet.length ≠ 0) :
 Fnc Tryz.prog 117 [pt sn] (stB sn x :: (treM tn0 ⟨A0, t0⟩ ++ treM tn1 ⟨A1, t1⟩)) (WtQ [0, 1] (stB sn x :: (treM tn0 ⟨A0, t0⟩ ++ treM tn1 ⟨A1, t1⟩))) := by
 have h1 := devices_ sn x hat
 have h2 := Tree.tsheet tn0 ⟨A0, t0⟩
 have h3 := tlen tn0 A0 t0
 have h4 := Tree.tsheet tn1 ⟨A1, t1⟩
 have h5 := tlen tn1 A1 t1
 refine fn_intro Tryz.func117 (by kernel_rfl) ?_
 repeat' ((conv => whnf); first
  | (refine call_g h1 (.blk takeC .nil) (fun e A' hq => ?_); obtain ⟨n, q1, q2⟩ := hq; subst q1; subst q2) | refine loop_n 3 ?_ | refine nv_eq (a := 0) rfl ?_ | refine nv_eq (a := 1) rfl ?_ | refine nv_eq (a := 6) rfl ?_ | refine nv_eq (a := 8) rfl ?_ | refine ld1_row (n := sn) (v := pt tn0) (by rw [stC_7, ht0]) ?_ | refine ld1_row (n := sn) (v := pt tn1) (by rw [stC_9, ht1]) ?_ | refine call_gr h2 (.one takeG) ?_ | refine call_gr h3 (.one takeG) ?_ | refine call_gr h4 (.one takeG) ?_ | refine call_gr h5 (.one takeG) ?_ | (refine app_cells (S := Own.nil) (n := 0) (m := 1) (e := 3) (xs := []) (news := [.int .i64 0]) rfl rfl rfl rfl rfl ⟨rfl, rfl⟩ rfl (by intro u hu; simp only [List.mem_singleton] at hu; subst hu; rfl) (by decide) (by decide) cells_at (fun S1 hS1 => ?_); rcases S1 with _ | ⟨g1, cap1, jk1⟩; · exact absurd hS1.2 (by decide)) | (refine app_cells (S := Own.at_ g1 cap1 jk1) (n := 0 + 1) (m := 1) (e := 3) (xs := [] ++ [Value.int IntKind.i64 0]) (news := [.int .i64 1]) rfl rfl rfl rfl rfl hS1 rfl (by intro u hu; simp only [List.mem_singleton] at hu; subst hu; rfl) (by decide) (by decide) cells_at (fun S2 hS2 => ?_); rcases S2 with _ | ⟨g2, cap2, jk2⟩; · exact absurd hS2.2 (by decide)) | refine ld1_lit ?_ | refine nw (fun n => ?_) | refine bld ?_ | refine need (by first | rfl | omega) ?_ | (refine wr (fun z hz => ?_); (try rw [Int.tdiv_eq_ediv_of_nonneg (by omega)] at hz); rw [w64 (by omega) (by omega)] at hz; subst hz) | (refine ifs (fun h => ?_) (fun h => ?_) <;> try (exfalso; first | omega | with_reducible first | contradiction | exact h rfl)))
 all_goals (conv => whnf)
 exact fin_g (A := stB sn x :: (treM tn0 ⟨A0, t0⟩ ++ (treM tn1 ⟨A1, t1⟩ ++ (Own.at_ g2 cap2 jk2).blk 3 (([] ++ [Value.int IntKind.i64 0]) ++ [Value.int IntKind.i64 1])))) (.blk takeC (.grp takeG (.grp takeG (.one takeE)))) (.inr ⟨by simp, g2, cap2, jk2, rfl, by rw [List.cons_append, List.append_assoc]; rfl⟩)
theorem waiting1 (sn tn0 tn1 : Nat) (x : StP) (A0 A1 : TreA) (t0 t1 : TreP) (hat : x.is.at_ = true) (ht0 : x.t0 = some ⟨tn0, 0, none⟩) (ht1 : x.t1 = some ⟨tn1, 0, none⟩) :
 Fnc Tryz.prog 117 [pt sn] (stB sn x :: (treM tn0 ⟨A0, t0⟩ ++ treM tn1 ⟨A1, t1⟩))
  (WtQ (wtL t0.sheet.length t1.sheet.length) (stB sn x :: (treM tn0 ⟨A0, t0⟩ ++ treM tn1 ⟨A1, t1⟩))) := by
 unfold wtL
 by_cases hn : t0.sheet.length = 0
 · by_cases hm : t1.sheet.length = 0
   · rw [if_pos hn, if_pos hm]; exact waitA sn tn0 tn1 x A0 A1 t0 t1 hat ht0 ht1 hn hm
   · rw [if_pos hn, if_neg hm]; exact waitB sn tn0 tn1 x A0 A1 t0 t1 hat ht0 ht1 hn hm
 · by_cases hm : t1.sheet.length = 0
   · rw [if_neg hn, if_pos hm]; exact waitC sn tn0 tn1 x A0 A1 t0 t1 hat ht0 ht1 hn hm
   · rw [if_neg hn, if_neg hm]; exact waitD sn tn0 tn1 x A0 A1 t0 t1 hat ht0 ht1 hn hm
end Stg
namespace Stg
open Go Ev Sha Aes Orc Node Rec Chn Jrn Cau Sto Srt
open Rig (Fnc_takeR RigP Rg rgM readR writeR flushR setRegR z64 app_of tick comes write_ flush_ setreg_ mayE RigA)
open Tree (TreP TreA Tre treM shB mpB treC)
theorem fagg_eql {P : Program} {RO M : List Blk} {k : Kv} {o : Oper} {fr : List Value} {x y : Operand} {t s : TypeId} {xs ys : List Value} {d : Nat} {ks : List Kd} (hk : kindsOf P d t = some ks) (hd : d ≤ 10000) (ho : o.op = .binOp .eql t x y s) (hx : Act.eval ⟨fr.toArray, []⟩ x = .agg xs.toArray) (hy : Act.eval ⟨fr.toArray, []⟩ y = .agg ys.toArray)
 (hm : isAggT P t = true) (hg : P.eqGuardType P.depth t = false) (fx : Fits ks xs) (fy : Fits ks ys) (h : If (xs = ys) (k (.bool true) M) (k (.bool false) M)) : FRuns P RO (execOp (Act.eval ⟨fr.toArray, []⟩) o) M k := by
 obtain ⟨r, h1, h2⟩ := eql_run ho hx hy hm hg hk hd fx fy
 exact (fl_sound P RO).val (pan := fun _ _ => False) _ h1 (if_bool (K := fun b => k (.bool b) M) h2 h)
def RgV.dm (x y : RgV) : RgV := { x with dirty := y.dirty, mode := y.mode }
abbrev kdR : List Kd := List.replicate 64 (.int .u8) ++ List.replicate 8 (.int .i64) ++ [.bool]
theorem kRegS : kindsOf Tryz.prog 6 34 = some kdR := by kernel_rfl
theorem fRegS (x : RgV) : Fits kdR (regC x) := by
 unfold regC
 repeat' first | exact trivial | (refine ⟨⟨_, rfl⟩, ?_⟩)
theorem regC_s70 {y : RgV} {v : Int} : (regC y).set 70 (.int .i64 v) = regC { y with dirty := v } := rfl
theorem regC_s71 {y : RgV} {v : Int} : (regC y).set 71 (.int .i64 v) = regC { y with mode := v } := rfl
theorem stC_nd {x : StP} : (stC x)[153]? = some (.int .i64 x.next.dirty) := rfl
theorem stC_nm {x : StP} : (stC x)[154]? = some (.int .i64 x.next.mode) := rfl
section
variable {P : Program} {M : List Blk} {n : Nat} {y : RgV} {T : TypeId} {f : Blk → List Blk} {k : List Blk → Prop} [z : Zip M n (.row (regC y) T) f]
theorem st_r70 {v : Int} (hk : k (f ⟨n, .row (regC { y with dirty := v }) T⟩)) : StN P M n 70 [.int .i64 v] k := st_row rfl (by rw [regC_len]; omega) (by rw [regC_s70]; exact hk)
theorem st_r71 {v : Int} (hk : k (f ⟨n, .row (regC { y with mode := v }) T⟩)) : StN P M n 71 [.int .i64 v] k := st_row rfl (by rw [regC_len]; omega) (by rw [regC_s71]; exact hk)
end
attribute [local irreducible] dgV D jC wrF rcC stC regC RgV.lay rgM setRegR writeR rcP recB begJ beginG bare BareT setG treC flatV Builtin.append_ Builtin.len_
theorem setg2 (a : RigA) (r : RigP) (sn : Nat) (x : StP) (y : RgV) (hrn : x.rn = a.rn) :
 Fnc Tryz.prog 96 [pt sn, .agg (regC y).toArray] (rgM ⟨a, r⟩ ++ [stB sn x])
  (fun e M => ((setG r y).2 = 0 ∧ e = .returned (.tuple #[]) ∧ M = rgM ⟨a, (setG r y).1⟩ ++ [stB sn { x with is := y }]) ∨ ((setG r y).2 ≠ 0 ∧ e = .panicked (pe (setG r y).2) ∧ M = rgM ⟨a, (setG r y).1⟩ ++ [stB sn x])) := by
 refine Fnc_mono (setg a r sn x y hrn) ?_
 rintro e M ⟨⟨h1, h2⟩ | ⟨h1, h2⟩, h3⟩
 · rw [if_pos h1] at h3; exact .inl ⟨h1, h2, h3⟩
 · rw [if_neg h1] at h3; exact .inr ⟨h1, h2, h3⟩
theorem flush0 (sn : Nat) : Fnc Tryz.prog 95 [pt sn, .slice none 0 0] [] (Ret (.tuple #[]) []) := by
 refine fn_intro Tryz.func95 (by kernel_rfl) ?_
 repeat' ((conv => whnf); first
  | refine loop_n 1 ?_ | (refine ifs (fun h => ?_) (fun h => ?_) <;> try (exfalso; first | omega | with_reducible first | contradiction | exact h rfl)))
 all_goals (conv => whnf)
 all_goals exact fin_nil ⟨rfl, rfl⟩
theorem commit_eq (sn : Nat) (x : StP) (R : List Blk) (hw : Fnc Tryz.prog 117 [pt sn] (stB sn x :: R) (Ret (.slice none 0 0) (stB sn x :: R))) (he : regC x.next = regC x.is) :
 Fnc Tryz.prog 61 [pt sn] (stB sn x :: R) (Ret (.tuple #[]) (stB sn x :: R)) := by
 refine fn_intro Tryz.func61 (by kernel_rfl) ?_
 repeat' ((conv => whnf); first
  | refine Tree.scope_rule ?_ | refine call_gr hw takesG_all ?_ | refine nw_row (cs' := regC rg0) rg0_e (fun xn => ?_) | refine draw_any 2 [(0, true), (1, true), (2, true), (3, true), (4, true), (5, true), (6, true), (8, true), (9, true), (10, true), (7, true), (11, false), (12, true), (13, true)] [⟨sn, _⟩] rfl (by kernel_rfl) (kept_of (.cons takeC .nil) ?_) | refine kept_of (.cons takeC .nil) ?_ | refine fldN_r (n := sn) _ stC_nx (regC_len _) ?_ | refine ldN_row (n := sn) _ stC_is (regC_len _) ?_ | (refine fagg_eql kRegS (by decide) rfl rfl rfl rfl (by kernel_rfl) (fRegS _) (fRegS _) ?_; refine ift he ?_) | (refine ifs (fun h => ?_) (fun h => ?_) <;> try (exfalso; first | omega | with_reducible first | contradiction | exact h rfl)))
 all_goals (conv => whnf)
 all_goals exact fin_g (A := stB sn x :: R) (.blk takeC (.one takeE)) ⟨rfl, rfl⟩
def StP.wn (x : StP) (y n : RgV) : StP := { x with is := y, next := n }
theorem commit_nil (a : RigA) (r : RigP) (sn : Nat) (x : StP) (R : List Blk) (hrn : x.rn = a.rn) (hw : Fnc Tryz.prog 117 [pt sn] (stB sn x :: R) (Ret (.slice none 0 0) (stB sn x :: R))) (he : ¬ regC x.next = regC x.is) :
 Fnc Tryz.prog 61 [pt sn] (rgM ⟨a, r⟩ ++ (stB sn x :: R))
  (fun e M => Pe (setG r (RgV.dm x.is x.next)).2 e ∧ M = rgM ⟨a, (setG r (RgV.dm x.is x.next)).1⟩ ++ (stB sn (if (setG r (RgV.dm x.is x.next)).2 = 0 then StP.wn x (RgV.dm x.is x.next) (RgV.dm x.is x.next) else x) :: R)) := by
 have hs := setg2 a r sn x (RgV.dm x.is x.next) hrn
 obtain ⟨q, eq⟩ : ∃ q, q = setG r (RgV.dm x.is x.next) := ⟨_, rfl⟩
 rw [← eq] at hs ⊢
 have hf := flush0 sn
 refine fn_intro Tryz.func61 (by kernel_rfl) ?_
 repeat' ((conv => whnf); first
  | refine Tree.scope_rule ?_ | refine call_gr hw (.blk takeC (.one takeE)) ?_ | refine nw_row (cs' := regC rg0) rg0_e (fun xn => ?_) | refine draw_any 2 [(0, true), (1, true), (2, true), (3, true), (4, true), (5, true), (6, true), (8, true), (9, true), (10, true), (7, true), (11, false), (12, true), (13, true)] [⟨sn, _⟩] rfl (by kernel_rfl) (kept_of (.cons takeC .nil) ?_) | refine draw_any 10 [(0, true), (1, true), (2, true), (3, true), (5, true), (6, true), (7, true), (8, true), (4, true), (10, true), (9, true), (11, false), (12, true), (13, false)] [⟨sn, _⟩] rfl (by kernel_rfl) (kept_of (.cons takeC .nil) ?_) | refine kept_of (.cons takeC .nil) ?_ | refine fldN_r (n := sn) _ stC_nx (regC_len _) ?_ | refine ldN_row (n := sn) _ stC_is (regC_len _) ?_ | refine ldN_whole (n := xn) (regC_len _) ?_ | (refine fagg_eql kRegS (by decide) rfl rfl rfl rfl (by kernel_rfl) (fRegS _) (fRegS _) ?_; refine iff' he ?_) | refine loop_n 1 ?_ | (refine need ?_ ?_; exact regC_len _) | refine st_rgl rfl ?_ | refine fld1_row (n := sn) stC_nd ?_ | refine fld1_row (n := sn) stC_nm ?_ | refine st_r70 ?_ | refine st_r71 ?_ | refine call_val hf ?_ | refine force_of ?_ | (refine call_g hs (.grp takeG (.blk takeC .nil)) (fun e A' hq => ?_); obtain ⟨p1, p2, p3⟩ | ⟨p1, p2, p3⟩ := hq <;> subst p2 <;> subst p3) | refine st_nx ?_ | refine need (by first | rfl | omega) ?_ | (refine ifs (fun h => ?_) (fun h => ?_) <;> try (exfalso; first | omega | with_reducible first | contradiction | exact h rfl)))
 all_goals (conv => whnf)
 · rw [if_pos p1]
   exact fin_g (A := rgM _ ++ (stB sn _ :: R)) (.grp takeG (.blk takeC (.one takeE))) ⟨.inl ⟨p1, rfl⟩, rfl⟩
 · rw [if_neg p1]
   exact fin_g (A := rgM _ ++ (stB sn _ :: R)) (.grp takeG (.blk takeC (.one takeE))) ⟨.inr ⟨p1, rfl⟩, rfl⟩
end Stg
namespace Stg
open Go Ev Sha Aes Orc Node Rec Chn Jrn Cau Sto Srt
open Rig (Fnc_takeR RigP Rg rgM readR writeR flushR setRegR z64 app_of tick comes write_ flush_ setreg_ mayE RigA)
open Tree (TreP TreA Tre treM shB mpB treC)
structure Cx where
 s : Rt
 j0 : JrP
 j1 : JrP
 t0 : TreP
 t1 : TreP
 is : RgV
 next : RgV
 x : RgV
def RgV.an (y : RgV) (d : Nat) (a : Dg) (u : Nat) : RgV := if d = 0 then { y with a0 := a, u0 := u } else { y with a1 := a, u1 := u }
noncomputable def ap0 (c : Cx) : Cx × Int :=
 if (appJ c.j0 c.t0.root (srt c.t0.sheet) c.s).2 = 0 then ({ c with s := (appJ c.j0 c.t0.root (srt c.t0.sheet) c.s).1, j0 := appX c.j0 c.t0.root (srt c.t0.sheet) 0, x := RgV.an c.x 0 (appX c.j0 c.t0.root (srt c.t0.sheet) 0).anchor (appX c.j0 c.t0.root (srt c.t0.sheet) 0).used }, 0)
 else ({ c with s := (appJ c.j0 c.t0.root (srt c.t0.sheet) c.s).1 }, (appJ c.j0 c.t0.root (srt c.t0.sheet) c.s).2)
noncomputable def ap1 (c : Cx) : Cx × Int :=
 if (appJ c.j1 c.t1.root (srt c.t1.sheet) c.s).2 = 0 then ({ c with s := (appJ c.j1 c.t1.root (srt c.t1.sheet) c.s).1, j1 := appX c.j1 c.t1.root (srt c.t1.sheet) 0, x := RgV.an c.x 1 (appX c.j1 c.t1.root (srt c.t1.sheet) 0).anchor (appX c.j1 c.t1.root (srt c.t1.sheet) 0).used }, 0)
 else ({ c with s := (appJ c.j1 c.t1.root (srt c.t1.sheet) c.s).1 }, (appJ c.j1 c.t1.root (srt c.t1.sheet) c.s).2)
noncomputable def flC (l : List Nat) (c : Cx) : Cx × Int := ({ c with s := ⟨(lp (flG l) l.length 0 c.s.r).1, c.s.ts⟩ }, (lp (flG l) l.length 0 c.s.r).2)
noncomputable def sayC (c : Cx) : Cx × Int := if (setG c.s.r c.x).2 = 0 then ({ c with s := ⟨(setG c.s.r c.x).1, c.s.ts⟩, is := c.x, next := c.x }, 0) else ({ c with s := ⟨(setG c.s.r c.x).1, c.s.ts⟩ }, (setG c.s.r c.x).2)
noncomputable def hm0 (c : Cx) : Cx × Int := if (hmG c.s.r 0 c.t0.sheet).2 = 0 then ({ c with s := ⟨(hmG c.s.r 0 c.t0.sheet).1, c.s.ts⟩, t0 := TreP.clr c.t0 }, 0) else ({ c with s := ⟨(hmG c.s.r 0 c.t0.sheet).1, c.s.ts⟩ }, (hmG c.s.r 0 c.t0.sheet).2)
noncomputable def hm1 (c : Cx) : Cx × Int := if (hmG c.s.r 1 c.t1.sheet).2 = 0 then ({ c with s := ⟨(hmG c.s.r 1 c.t1.sheet).1, c.s.ts⟩, t1 := TreP.clr c.t1 }, 0) else ({ c with s := ⟨(hmG c.s.r 1 c.t1.sheet).1, c.s.ts⟩ }, (hmG c.s.r 1 c.t1.sheet).2)
def Cx.go (c : Cx) : Cx := { c with x := RgV.dm c.is c.next }
noncomputable def com0 (c : Cx) : Cx × Int := bd (τ := Cx) (ap0 (Cx.go c)) fun c => bd (τ := Cx) (flC [0] c) fun c => bd (τ := Cx) (sayC c) hm0
theorem troot (tn : Nat) (x : Tre) : Fnc Tryz.prog 124 [pt tn] (treM tn x) (Ret (.agg (dgV x.t.root).toArray) (treM tn x)) := by
 unfold treM
 refine fn_intro Tryz.func124 (by kernel_rfl) ?_
 repeat' ((conv => whnf); first
  | refine nw_z (fun n => ?_) | refine ldN_row (n := tn) (dgV x.t.root) rfl (dgV_len _) ?_ | refine need (dgV_len _) ?_ | refine st_dg ?_ | refine ldN_dg rfl ?_)
 all_goals (conv => whnf)
 all_goals exact fin_g (A := [⟨tn, _⟩, shB x.a.sn x.a.mn, mpB x.a.mn x.t.sheet, mpB x.a.kn x.t.known]) (.blk takeC (.blk takeC (.blk takeC (.blk takeC .nil)))) ⟨rfl, rfl⟩
theorem wt_out {d : Nat} {l : List Nat} {M M' : List Blk} {e : Ending} (h : WtQ (d :: l) M e M') : ∃ (ln c : Nat) (jk : List Value), e = .returned (.slice (some ⟨ln, 0, none⟩) (d :: l).length c) ∧ M' = M ++ [lJ ln (d :: l) jk] := by
 rcases h with ⟨h1, _⟩ | ⟨_, h2⟩
 · cases h1
 · exact h2
theorem rcC_P (seq : Int) (b : Dg) (p : Value) : (rcC seq b).take 33 ++ [p] ++ (rcC seq b).drop (33 + 1) = rcP seq b p := rfl
attribute [local irreducible] dgV D jC wrF rcC stC regC RgV.lay rgM setRegR writeR rcP recB begJ beginG bare BareT setG treC flatV Builtin.append_ Builtin.len_ appJ appX hmG srt roomJ
end Stg
namespace Stg
open Go Ev Sha Aes Orc Node Rec Chn Jrn Cau Sto Srt
open Rig (Fnc_takeR RigP Rg rgM readR writeR flushR setRegR z64 app_of tick comes write_ flush_ setreg_ mayE RigA)
open Tree (TreP TreA Tre treM shB mpB treC)
noncomputable def com1 (c : Cx) : Cx × Int := bd (τ := Cx) (ap1 (Cx.go c)) fun c => bd (τ := Cx) (flC [1] c) fun c => bd (τ := Cx) (sayC c) hm1
attribute [local irreducible] dgV D jC wrF rcC stC regC RgV.lay rgM setRegR writeR rcP recB begJ beginG bare BareT setG treC flatV Builtin.append_ Builtin.len_ appJ appX hmG srt roomJ
end Stg
namespace Stg
open Go Ev Sha Aes Orc Node Rec Chn Jrn Cau Sto Srt
open Rig (Fnc_takeR RigP Rg rgM readR writeR flushR setRegR z64 app_of tick comes write_ flush_ setreg_ mayE RigA)
open Tree (TreP TreA Tre treM shB mpB treC)
noncomputable def com01 (c : Cx) : Cx × Int := bd (τ := Cx) (ap0 (Cx.go c)) fun c => bd (τ := Cx) (ap1 c) fun c => bd (τ := Cx) (flC [0, 1] c) fun c => bd (τ := Cx) (sayC c) fun c => bd (τ := Cx) (hm0 c) hm1
def c2M (a : RigA) (o : Orc) (sn jn0 jn1 tn0 tn1 rn on : Nat) (x : StP) (A0 A1 : TreA) (c : Cx) : List Blk := rgM ⟨a, c.s.r⟩ ++ (orcM o ++ (stB sn (StP.wn x c.is c.next) :: (jB jn0 rn on c.j0 :: (jB jn1 rn on c.j1 :: (treM tn0 ⟨A0, c.t0⟩ ++ treM tn1 ⟨A1, c.t1⟩)))))
theorem appJ_len (x : JrP) (root : Dg) (l : List (Int × ByteArray)) (s : Rt) : (appJ x root l s).1.ts.length ≤ s.ts.length + 1 := by
 unfold appJ
 split
 · exact addT_len _ _
 · exact Nat.le_succ _
theorem tputs (tn : Nat) (A : TreA) (t : TreP) (hn : (t.sheet.map (·.1)).Nodup) (h1 : 1 ≤ t.sheet.length) (h2 : t.sheet.length ≤ 1000) :
 Fnc Tryz.prog 125 [pt A.sn] (treM tn ⟨A, t⟩) (fun e M => ∃ (g cap : Nat) (junk : List Value), e = .returned (.slice (some ⟨g, 0, none⟩) t.sheet.length cap) ∧ M = treM tn ⟨A, t⟩ ++ [⟨g, .row (flatV (srt t.sheet) ++ junk) 117⟩]) := by
 have h := puts_ A.sn A.mn t.sheet hn h1 h2
 unfold treM
 refine Fnc_drop (Fnc_perm (Fnc_more (B := [Tree.tB tn A t.d t.root, mpB A.kn t.known]) h) (TakesG.perm (M := [Tree.tB tn A t.d t.root, shB A.sn A.mn, mpB A.mn t.sheet, mpB A.kn t.known]) (A := [shB A.sn A.mn, mpB A.mn t.sheet]) (.blk takeC (.blk takeC .nil))).symm) ?_
 rintro e A' ⟨A2, h3, g, cap, jk, h4, h5⟩
 subst h5; subst h3
 refine ⟨_, [], ?_, ⟨g, cap, jk, h4, rfl⟩⟩
 rw [List.append_nil]
 exact (TakesG.perm (M := [Tree.tB tn A t.d t.root, shB A.sn A.mn, mpB A.mn t.sheet, mpB A.kn t.known] ++ [⟨g, .row (flatV (srt t.sheet) ++ jk) 117⟩]) (A := [shB A.sn A.mn, mpB A.mn t.sheet, ⟨g, .row (flatV (srt t.sheet) ++ jk) 117⟩]) (.blk takeC (.blk takeC (.blk takeC .nil)))).symm
attribute [local irreducible] dgV D jC wrF rcC stC regC RgV.lay rgM setRegR writeR rcP recB begJ beginG bare BareT setG treC flatV Builtin.append_ Builtin.len_ appJ appX hmG srt roomJ
end Stg
namespace Ev
open Go
def glue : List Code → Code → Code
 | [], d => d
 | c :: t, d => .seq c (glue t d)
noncomputable def pw (P : Program) (pre : List Code) : List Value → List Blk → (List Value → List Blk → Prop) → Ks → Prop :=
 List.rec (motive := fun _ => List Value → List Blk → (List Value → List Blk → Prop) → Ks → Prop) (fun fr M k _ => k fr M)
  (fun c _ ih fr M k K => cw P c fr M fun e fr' M' => match e with | .normal => ih fr' M' k K | .goto _ => False | e => K e fr' M') pre
structure LabW (P : Program) (l : Nat) (c D : Code) (fr : List Value) (M : List Blk) (K : Ks) : Prop where
 out : ∀ A w0 w ds, St A w0 w M → ∀ b k cs, ∃ e a' w', QQ A w0 ds K e a' w' ∧ Arrives P (lone (b.at ⟨fr.toArray, ds⟩ (.code D :: .inScope c :: k)) cs w) b k cs e a' w'
theorem pw_run {P : Program} {l : Nat} {c D : Code} {K : Ks} {A : List Blk} {w0 : World} {ds : List Deferred} : ∀ (pre : List Code) (fr : List Value) (M : List Blk) (w : World), pw P pre fr M (fun fr' M' => LabW P l c D fr' M' K) K → St A w0 w M →
 ∀ b k cs, ∃ e a' w', QQ A w0 ds K e a' w' ∧ Arrives P (lone (b.at ⟨fr.toArray, ds⟩ (.code (glue pre (.seq (.label l) D)) :: .inScope c :: k)) cs w) b k cs e a' w'
 | [], fr, M, w, h, st, b, k, cs => by
   have h : LabW P l c D fr M K := h
   obtain ⟨e, a', w', hq, harr⟩ := h.out A w0 w ds st b k cs
   exact ⟨e, a', w', hq, .of_steps (.head step_seq (.one step_label)) harr⟩
 | x :: t, fr, M, w, h, st, b, k, cs => by
   have h : cw P x fr M fun e fr' M' => match e with | .normal => pw P t fr' M' (fun fr' M' => LabW P l c D fr' M' K) K | .goto _ => False | e => K e fr' M' := h
   obtain ⟨e, a₁, w₁, hq, harr⟩ := cw_sound x fr M _ h A w0 w ds st b (.code (glue t (.seq (.label l) D)) :: .inScope c :: k) cs
   obtain ⟨fr₁, M₁, rfl, st₁, hk⟩ := hq
   cases e with
   | normal =>
     obtain ⟨e₂, a₂, w₂, hq₂, harr₂⟩ := pw_run t fr₁ M₁ w₁ hk st₁ b k cs
     exact ⟨e₂, a₂, w₂, hq₂, .of_steps (.head step_seq harr) harr₂⟩
   | exit id => exact ⟨.exit id, _, w₁, ⟨fr₁, M₁, rfl, st₁, hk⟩, fun k' hk' => .head step_seq (harr k' (by simp [exitTo, hk']))⟩
   | goto l' => exact hk.elim
   | ret => exact ⟨_, _, w₁, ⟨fr₁, M₁, rfl, st₁, hk⟩, .of_steps (.one step_seq) harr⟩
   | panic ch => exact ⟨_, _, w₁, ⟨fr₁, M₁, rfl, st₁, hk⟩, .of_steps (.one step_seq) harr⟩
   | outgrown => exact ⟨_, _, w₁, ⟨fr₁, M₁, rfl, st₁, hk⟩, .of_steps (.one step_seq) harr⟩
theorem scope_lab {P : Program} {c D : Code} {fr : List Value} {M : List Blk} {K : Ks} (l : Nat) (pre : List Code) (hc : c = glue pre (.seq (.label l) D)) (h : pw P pre fr M (fun fr' M' => LabW P l c D fr' M' K) K) : CodeW P (.scope c) fr M K := by
 refine ⟨fun A w0 w ds st b k cs => ?_⟩
 obtain ⟨e, a', w', hq, harr⟩ := pw_run (A := A) (w0 := w0) (ds := ds) pre fr M w h st b k cs
 rw [← hc] at harr
 exact ⟨e, a', w', hq, .of_steps (.one step_scope) harr⟩
theorem lab_rule {P : Program} {l : Nat} {c D : Code} {fr : List Value} {M : List Blk} {K : Ks} (sel : List Nat) (I : List Value → List Blk → Nat → Prop)
 (hsel : sel.all (fun n => memB n (dsts D)) = true) (hf : findLabel c l = some (.seq .skip D))
 (h0 : getsK fr sel fun vs => Fin M fun A' => ∃ m, I vs A' m)
 (hstep : ∀ vs (junk : Nat → Value) M' m, I vs M' m → havocK (dsts D) sel vs junk fr 0 fun fr' => cw P D fr' M' fun e fr'' M'' => match e with
   | .goto l' => l' = l ∧ mask (dsts D) fr'' 0 = mask (dsts D) fr 0 ∧ getsK fr'' sel fun vs' => Fin M'' fun A' => ∃ m', m' < m ∧ I vs' A' m'
   | e => K e fr'' M'') : LabW P l c D fr M K := by
 refine ⟨fun A w0 w ds st => ?_⟩
 rw [getsK_eq] at h0
 obtain ⟨M0, st0, m0, h0⟩ := fin_out st h0
 have hsel' : ∀ n, n ∈ sel → memB n (dsts D) = true := fun n hn => List.all_eq_true.1 hsel n hn
 have key : ∀ m (fr' : List Value) M' w', St A w0 w' M' → agree (dsts D) fr fr' 0 → I (sel.map fun n => fr'.toArray.getD n undef) M' m → ∀ b k cs,
  ∃ e a' w'', QQ A w0 ds K e a' w'' ∧ Arrives P (lone (b.at ⟨fr'.toArray, ds⟩ (.code D :: .inScope c :: k)) cs w') b k cs e a' w'' := by
  intro m
  induction m using Nat.strongRecOn with
  | _ m ih =>
    intro fr' M' w' st' hag hI b k cs
    have hs := hstep _ (fun n => fr'.toArray.getD n undef) M' m hI
    rw [havocK_eq] at hs
    have e := havoc_id (dsts D) sel fr fr' 0 hag hsel'
    simp only [Nat.zero_le, if_true, Nat.sub_zero] at e
    rw [e] at hs
    have hg : gotoIn l (.inScope c :: k) = some (.code (.seq .skip D) :: .inScope c :: k) := by simp [gotoIn, hf]
    obtain ⟨e, a₁, w₁, hq, harr⟩ := cw_sound D fr' M' _ hs A w0 w' ds st' b (.inScope c :: k) cs
    obtain ⟨fr₁, M₁, rfl, st₁, hk⟩ := hq
    cases e with
    | normal => exact ⟨.normal, _, w₁, ⟨fr₁, M₁, rfl, st₁, hk⟩, Steps.trans harr (.one step_inScope)⟩
    | exit id => exact ⟨.exit id, _, w₁, ⟨fr₁, M₁, rfl, st₁, hk⟩, fun k' hk' => harr k' (by simp [exitTo, hk'])⟩
    | goto l' =>
      obtain ⟨rfl, hmk, hk⟩ := hk
      have hag₁ := agree_of_mask _ _ _ _ hmk
      rw [getsK_eq] at hk
      obtain ⟨M₂, st₂, m', hlt, hI'⟩ := fin_out st₁ hk
      obtain ⟨e₂, a₂, w₂, hq₂, harr₂⟩ := ih m' hlt fr₁ M₂ w₁ st₂ hag₁ hI' b k cs
      exact ⟨e₂, a₂, w₂, hq₂, .of_steps (Steps.trans (harr _ hg) (.head step_seq (.one step_skip))) harr₂⟩
    | ret => exact ⟨_, _, w₁, ⟨fr₁, M₁, rfl, st₁, hk⟩, harr⟩
    | panic ch => exact ⟨_, _, w₁, ⟨fr₁, M₁, rfl, st₁, hk⟩, harr⟩
    | outgrown => exact ⟨_, _, w₁, ⟨fr₁, M₁, rfl, st₁, hk⟩, harr⟩
 exact key m0 fr M0 w st0 (agree_refl _ _ _) h0
end Ev
namespace Stg
open Go Ev Sha Aes Orc Node Rec Chn Jrn Cau Sto Srt
open Rig (Fnc_takeR RigP Rg rgM readR writeR flushR setRegR z64 app_of tick comes write_ flush_ setreg_ mayE RigA)
open Tree (TreP TreA Tre treM shB mpB treC)
structure JOk (J : JrP) (T : TreP) : Prop where
 ck : chkE (J.seq + 1) (srt T.sheet) = 0
 d : J.d ≤ 1
 area : J.area ≤ 1
 used : J.used ≤ 80
 sq : 0 ≤ J.seq
theorem room_beg (super : ByteArray) (d area : Nat) (seq : Int) (root : Dg) {n : Nat} (h1 : 1 ≤ n) (h2 : n ≤ 64) : roomJ (begJ super d area seq root) n = true := by
 have e : (begJ super d area seq root).used = 1 := by unfold begJ addJs jr0; rfl
 unfold roomJ
 rw [e]
 unfold rlen
 rw [if_neg (by omega)]
 exact decide_eq_true (by omega)
theorem begJ_f (super : ByteArray) (d area : Nat) (seq : Int) (root : Dg) : (begJ super d area seq root).seq = seq ∧ (begJ super d area seq root).d = d ∧ (begJ super d area seq root).area = area ∧ (begJ super d area seq root).used = 1 ∧ (begJ super d area seq root).root = root := ⟨rfl, rfl, rfl, rfl, rfl⟩
theorem set_at (y : RgV) (d : Nat) (a : Dg) (ar u : Int) : (y.set d a ar u).at_ = y.at_ := by unfold RgV.set; split <;> rfl
def StP.wk (x : StP) (jn : Nat) (y n : RgV) : StP := StP.wn (StP.wj x jn y) y n
attribute [local irreducible] dgV D jC wrF rcC stC regC RgV.lay rgM setRegR writeR rcP recB begJ beginG bare BareT setG treC flatV Builtin.append_ Builtin.len_ appJ appX hmG srt roomJ
end Stg
namespace Stg
open Go Ev Sha Aes Orc Node Rec Chn Jrn Cau Sto Srt
open Rig (Fnc_takeR RigP Rg rgM readR writeR flushR setRegR z64 app_of tick comes write_ flush_ setreg_ mayE RigA)
open Tree (TreP TreA Tre treM shB mpB treC)
noncomputable def enA2 (super : ByteArray) (c : Cx) : Cx × Int :=
 if (areas2G super ⟨c.s, c.j0, c.j1, c.is⟩).2 = 0 then ({ c with s := (areas2G super ⟨c.s, c.j0, c.j1, c.is⟩).1.s, j0 := (areas2G super ⟨c.s, c.j0, c.j1, c.is⟩).1.j0, j1 := (areas2G super ⟨c.s, c.j0, c.j1, c.is⟩).1.j1, is := (areas2G super ⟨c.s, c.j0, c.j1, c.is⟩).1.y }, 0)
 else ({ c with s := (areas2G super ⟨c.s, c.j0, c.j1, c.is⟩).1.s, j0 := (areas2G super ⟨c.s, c.j0, c.j1, c.is⟩).1.j0, j1 := (areas2G super ⟨c.s, c.j0, c.j1, c.is⟩).1.j1 }, (areas2G super ⟨c.s, c.j0, c.j1, c.is⟩).2)
theorem ar0_ok {super : ByteArray} {q : Ax} (h : (ar0 super q).2 = 0) : ar0 super q = (⟨(beginG super 0 (1 - q.j0.area) q.j0.seq q.j0.root q.s).1, begJ super 0 (1 - q.j0.area) q.j0.seq q.j0.root, q.j1, q.y.set 0 (begJ super 0 (1 - q.j0.area) q.j0.seq q.j0.root).anchor (1 - q.j0.area : Nat) 1⟩, 0) := by
 by_cases e : (beginG super 0 (1 - q.j0.area) q.j0.seq q.j0.root q.s).2 = 0
 · unfold ar0; exact if_pos e
 · unfold ar0 at h; rw [if_neg e] at h; exact absurd h e
theorem ar1_ok {super : ByteArray} {q : Ax} (h : (ar1 super q).2 = 0) : ar1 super q = (⟨(beginG super 1 (1 - q.j1.area) q.j1.seq q.j1.root q.s).1, q.j0, begJ super 1 (1 - q.j1.area) q.j1.seq q.j1.root, q.y.set 1 (begJ super 1 (1 - q.j1.area) q.j1.seq q.j1.root).anchor (1 - q.j1.area : Nat) 1⟩, 0) := by
 by_cases e : (beginG super 1 (1 - q.j1.area) q.j1.seq q.j1.root q.s).2 = 0
 · unfold ar1; exact if_pos e
 · unfold ar1 at h; rw [if_neg e] at h; exact absurd h e
theorem bd_two {σ τ : Type} {x : σ × Int} {g : σ → σ × Int} (h : (bd (τ := τ) x g).2 = 0) : x.2 = 0 ∧ bd (τ := τ) x g = g x.1 := by
 by_cases e : x.2 = 0
 · exact ⟨e, if_pos e⟩
 · rw [bd_no e] at h; exact absurd h e
theorem areas2_ok {super : ByteArray} {q : Ax} (h : (areas2G super q).2 = 0) : (areas2G super q).1.j0 = begJ super 0 (1 - q.j0.area) q.j0.seq q.j0.root ∧ (areas2G super q).1.j1 = begJ super 1 (1 - q.j1.area) q.j1.seq q.j1.root ∧ (areas2G super q).1.y.at_ = q.y.at_ ∧ (areas2G super q).1.s.ts.length ≤ q.s.ts.length + 4 := by
 unfold areas2G at h ⊢
 obtain ⟨h1, e1⟩ := bd_two h
 rw [e1] at h ⊢
 obtain ⟨h2, e2⟩ := bd_two h
 rw [e2] at h ⊢
 rw [ar0_ok h2] at h ⊢
 obtain ⟨h3, e3⟩ := bd_two h
 rw [e3] at h ⊢
 rw [ar1_ok h3] at h ⊢
 obtain ⟨h4, e4⟩ := bd_two h
 rw [e4]
 have l1 := beginG_len super 0 (1 - q.j0.area) q.j0.seq q.j0.root (flA [0, 1] q).1.s
 have l2 := beginG_len super 1 (1 - q.j1.area) q.j1.seq q.j1.root (beginG super 0 (1 - q.j0.area) q.j0.seq q.j0.root (flA [0, 1] q).1.s).1
 have l0 : (flA [0, 1] q).1.s.ts = q.s.ts := rfl
 rw [l0] at l1
 exact ⟨rfl, rfl, (set_at _ _ _ _ _).trans (set_at _ _ _ _ _), by exact Nat.le_trans l2 (by omega)⟩
structure JAr (J : JrP) : Prop where
 area : J.area ≤ 1
 sq : seqOk J.seq
def StP.wkk (x : StP) (p0 p1 : Nat) (y n : RgV) : StP := StP.wn (StP.wjj x p0 p1 y) y n
def CTQ (a : RigA) (o : Orc) (sn tn0 tn1 : Nat) (x : StP) (A0 A1 : TreA) (q : Cx × Int) : Ending → List Blk → Prop := fun e M =>
 ∃ (o' : Orc) (A0' A1' : TreA) (p0 p1 : Nat), o'.on = o.on ∧ o'.ts = q.1.s.ts ∧ A0'.rn = A0.rn ∧ A0'.on = A0.on ∧ A1'.rn = A1.rn ∧ A1'.on = A1.on ∧ Pe q.2 e ∧
   M = rgM ⟨a, q.1.s.r⟩ ++ (orcM o' ++ (stB sn (StP.wkk x p0 p1 q.1.is q.1.next) :: (jB p0 a.rn o.on q.1.j0 :: (jB p1 a.rn o.on q.1.j1 :: (treM tn0 ⟨A0', q.1.t0⟩ ++ treM tn1 ⟨A1', q.1.t1⟩)))))
end Stg
namespace Ivs
open Go Ev Sha Aes
structure RwP where
 next : Int
 top : Int
 many : Int
abbrev rwB (n : Nat) (x : RwP) : Blk := ⟨n, .cells [.int .i64 x.next, .int .i64 x.top, .int .i64 x.many] 224⟩
def rowOk (x : RwP) : Prop := 0 ≤ x.next ∧ x.next ≤ x.top ∧ x.top ≤ x.many ∧ x.many ≤ 1099511627776
theorem within (n least most : Int) : Fnc Tryz.prog 152 [.int .i64 n, .int .i64 least, .int .i64 most] [] (Ret (.bool (decide (least ≤ n ∧ n ≤ most))) []) := by
 refine fn_intro Tryz.func152 (by kernel_rfl) ?_
 repeat' ((conv => whnf); first
  | (refine ifs (fun h => ?_) (fun h => ?_) <;> try (exfalso; first | omega | with_reducible first | contradiction | exact h rfl)))
 all_goals (conv => whnf)
 · rw [decide_eq_true (by omega)]; exact fin_nil ⟨rfl, rfl⟩
 · rw [decide_eq_false (by omega)]; exact fin_nil ⟨rfl, rfl⟩
 · rw [decide_eq_false (by omega)]; exact fin_nil ⟨rfl, rfl⟩
theorem inew (from_ many : Int) (h : 1 ≤ many ∧ many ≤ 1099511627776 ∧ 0 ≤ from_ ∧ from_ ≤ many) : Fnc Tryz.prog 87 [.int .i64 from_, .int .i64 many] [] (fun e A => ∃ n, e = .returned (.tuple #[pt n, .int .i64 0]) ∧ A = [rwB n ⟨from_, from_, many⟩]) := by
 have h1 := within many 1 1099511627776
 have h2 := within from_ 0 many
 rw [decide_eq_true (by omega)] at h1
 rw [decide_eq_true (by omega)] at h2
 refine fn_intro Tryz.func87 (by kernel_rfl) ?_
 repeat' ((conv => whnf); first
  | refine call_val h1 ?_ | refine call_val h2 ?_ | refine nw (fun n => ?_) | refine bld ?_)
 all_goals (conv => whnf)
 all_goals exact fin_all ⟨n, rfl, rfl⟩
def needN (x : RwP) : Int := if x.next < x.top ∨ x.many ≤ x.top then 0 else min (x.top + 16) x.many
def needB (x : RwP) : Bool := decide (¬ (x.next < x.top ∨ x.many ≤ x.top))
theorem need_ (n : Nat) (x : RwP) (h : rowOk x) : Fnc Tryz.prog 224 [pt n] [rwB n x] (Ret (.tuple #[.int .i64 (needN x), .bool (needB x)]) [rwB n x]) := by
 unfold rowOk at h
 refine fn_intro Tryz.func224 (by kernel_rfl) ?_
 repeat' ((conv => whnf); first
  | refine draw_tree 1 (.take 0 (.take 1 (.take 2 (.take 3 (.take 4 (.take 5 (.take 6 (.take 7 (.take 8 (.take 9 (.take 10 (.take 11 (.take 12 (.take 13 (.take 14 (.take 15 (.take 16 (.take 17 (.take 18 (.take 19 (.take 20 (.take 21 (.take 22 (.take 23 .nil)))))))))))))))))))))))) [⟨n, _⟩] rfl (by kernel_rfl) (kept1 ?_) | refine draw_tree 3 (.take 0 (.take 1 (.take 2 (.take 3 (.take 4 (.take 5 (.take 6 (.take 7 (.take 8 (.only 9 (.take 10 (.take 11 .nil)))))))))))) [⟨n, _⟩] rfl (by kernel_rfl) (kept1 ?_) | refine kept1 ?_ | refine fld1 ?_ | (refine wr (fun z hz => ?_); (try rw [Int.tdiv_eq_ediv_of_nonneg (by omega)] at hz); rw [w64 (by omega) (by omega)] at hz; subst hz) | (refine ifs (fun h => ?_) (fun h => ?_) <;> try (exfalso; first | omega | with_reducible first | contradiction | exact h rfl)))
 all_goals (conv => whnf)
 · rw [show needN x = 0 by unfold needN; rw [if_pos (by omega)], show needB x = false by unfold needB; exact decide_eq_false (by omega)]; exact fin_all ⟨rfl, rfl⟩
 · rw [show needN x = 0 by unfold needN; rw [if_pos (by omega)], show needB x = false by unfold needB; exact decide_eq_false (by omega)]; exact fin_all ⟨rfl, rfl⟩
 · rw [show needN x = x.many by unfold needN; rw [if_neg (by omega)]; omega, show needB x = true by unfold needB; exact decide_eq_true (by omega)]; exact fin_all ⟨rfl, rfl⟩
 · rw [show needN x = x.top + 16 by unfold needN; rw [if_neg (by omega)]; omega, show needB x = true by unfold needB; exact decide_eq_true (by omega)]; exact fin_all ⟨rfl, rfl⟩
theorem iraise (n : Nat) (x : RwP) (top : Int) (h : x.top < top ∧ top ≤ x.many) : Fnc Tryz.prog 225 [pt n, .int .i64 top] [rwB n x] (Ret (.int .i64 0) [rwB n { x with top := top }]) := by
 refine fn_intro Tryz.func225 (by kernel_rfl) ?_
 repeat' ((conv => whnf); first
  | refine ld1_lit ?_ | refine st_lit rfl ?_ | refine need (by first | rfl | omega) ?_ | (refine ifs (fun h => ?_) (fun h => ?_) <;> try (exfalso; first | omega | with_reducible first | contradiction | exact h rfl)))
 all_goals (conv => whnf)
 all_goals exact fin_all ⟨rfl, rfl⟩
theorem itake (n : Nat) (x : RwP) (h : rowOk x) (h2 : x.next < x.top) : Fnc Tryz.prog 226 [pt n] [rwB n x] (Ret (.tuple #[.int .i64 x.next, .int .i64 0]) [rwB n { x with next := x.next + 1 }]) := by
 unfold rowOk at h
 refine fn_intro Tryz.func226 (by kernel_rfl) ?_
 repeat' ((conv => whnf); first
  | refine draw_tree 3 (.take 0 (.take 1 (.take 2 (.take 3 (.take 4 (.take 5 (.take 6 (.take 7 (.take 8 (.take 9 .nil)))))))))) [⟨n, _⟩] rfl (by kernel_rfl) (kept1 ?_) | refine draw_tree 5 (.take 0 (.take 1 (.take 2 (.take 3 (.take 4 (.take 5 (.take 6 (.take 7 (.take 8 (.take 9 .nil)))))))))) [⟨n, _⟩] rfl (by kernel_rfl) (kept1 ?_) | refine fld1 ?_ | refine ld1_lit ?_ | refine st_lit rfl ?_ | refine need (by first | rfl | omega) ?_ | (refine wr (fun z hz => ?_); (try rw [Int.tdiv_eq_ediv_of_nonneg (by omega)] at hz); rw [w64 (by omega) (by omega)] at hz; subst hz) | (refine ifs (fun h => ?_) (fun h => ?_) <;> try (exfalso; first | omega | with_reducible first | contradiction | exact h rfl)))
 all_goals (conv => whnf)
 all_goals rw [show x.next + 1 - 1 = x.next by omega]
 all_goals exact fin_all ⟨rfl, rfl⟩
theorem itake_no (n : Nat) (x : RwP) (h : rowOk x) (h2 : x.many ≤ x.next) : Fnc Tryz.prog 226 [pt n] [rwB n x] (Ret (.tuple #[.int .i64 0, .int .i64 16]) [rwB n x]) := by
 unfold rowOk at h
 refine fn_intro Tryz.func226 (by kernel_rfl) ?_
 repeat' ((conv => whnf); first
  | refine draw_tree 3 (.take 0 (.take 1 (.take 2 (.take 3 (.take 4 (.take 5 (.take 6 (.take 7 (.take 8 (.take 9 .nil)))))))))) [⟨n, _⟩] rfl (by kernel_rfl) (kept1 ?_) | refine fld1 ?_ | (refine ifs (fun h => ?_) (fun h => ?_) <;> try (exfalso; first | omega | with_reducible first | contradiction | exact h rfl)))
 all_goals (conv => whnf)
 all_goals exact fin_all ⟨rfl, rfl⟩
theorem ileft (n : Nat) (x : RwP) (h : rowOk x) : Fnc Tryz.prog 136 [pt n] [rwB n x] (Ret (.int .i64 (x.many - x.next)) [rwB n x]) := by
 unfold rowOk at h
 refine fn_intro Tryz.func136 (by kernel_rfl) ?_
 repeat' ((conv => whnf); first
  | refine draw_tree 3 (.take 0 (.take 1 (.take 2 (.take 3 (.take 4 (.take 5 (.take 6 (.take 7 (.take 8 (.take 9 .nil)))))))))) [⟨n, _⟩] rfl (by kernel_rfl) (kept1 ?_) | refine fld1 ?_ | (refine wr (fun z hz => ?_); (try rw [Int.tdiv_eq_ediv_of_nonneg (by omega)] at hz); rw [w64 (by omega) (by omega)] at hz; subst hz))
 all_goals (conv => whnf)
 all_goals exact fin_all ⟨rfl, rfl⟩
end Ivs
end Go.Proofs.YtkjamonkohpcnaaGreat
