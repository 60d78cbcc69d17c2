/- A store on any rig: a commit of both devices' sheets, there being room. -/
import Derived.Test.YtkjamonkohpcnaaGreatMz17
import Derived.Test.YtkjamonkohpcnaaGreatMz5
import Derived.ScopeJumps
import Derived.Test.YtkjamonkohpcnaaGreatMz15
import Derived.Test.YtkjamonkohpcnaaGreatMz7
import Derived.Test.YtkjamonkohpcnaaGreatMz8
import Derived.Test.YtkjamonkohpcnaaGreatMz13
namespace Go.Proofs.YtkjamonkohpcnaaGreat.Stg
open Go Ev Sha Aes Orc Node Rec Chn Jrn Cau Sto Srt
open Rig (Fnc_takeR RigP Rg rgM readR writeR flushR setRegR z64 app_of tick comes write_ flush_ setreg_ mayE RigA)
open Tree (TreP TreA Tre treM shB mpB treC)
set_option linter.unusedVariables false
set_option linter.unusedSimpArgs false
set_option maxRecDepth 100000
noncomputable def com01 (c : Cx) : Cx × Int := bd (τ := Cx) (ap0 (Cx.go c)) fun c => bd (τ := Cx) (ap1 c) fun c => bd (τ := Cx) (flC [0, 1] c) fun c => bd (τ := Cx) (sayC c) fun c => bd (τ := Cx) (hm0 c) hm1
def c2M (a : RigA) (o : Orc) (sn jn0 jn1 tn0 tn1 rn on : Nat) (x : StP) (A0 A1 : TreA) (c : Cx) : List Blk := rgM ⟨a, c.s.r⟩ ++ (orcM o ++ (stB sn (StP.wn x c.is c.next) :: (jB jn0 rn on c.j0 :: (jB jn1 rn on c.j1 :: (treM tn0 ⟨A0, c.t0⟩ ++ treM tn1 ⟨A1, c.t1⟩)))))
theorem appJ_len (x : JrP) (root : Dg) (l : List (Int × ByteArray)) (s : Rt) : (appJ x root l s).1.ts.length ≤ s.ts.length + 1 := by
  unfold appJ
  split
  · exact addT_len _ _
  · exact Nat.le_succ _
theorem tputs (tn : Nat) (A : TreA) (t : TreP) (hn : (t.sheet.map (·.1)).Nodup) (h1 : 1 ≤ t.sheet.length) (h2 : t.sheet.length ≤ 1000) :
    Fnc Tryz.prog 125 [pt A.sn] (treM tn ⟨A, t⟩) (fun e M => ∃ (g cap : Nat) (junk : List Value), e = .returned (.slice (some ⟨g, 0, none⟩) t.sheet.length cap) ∧ M = treM tn ⟨A, t⟩ ++ [⟨g, .row (flatV (srt t.sheet) ++ junk) 117⟩]) := by
  have h := puts_ A.sn A.mn t.sheet hn h1 h2
  unfold treM
  refine Fnc_drop (Fnc_perm (Fnc_more (B := [Tree.tB tn A t.d t.root, mpB A.kn t.known]) h) (TakesG.perm (M := [Tree.tB tn A t.d t.root, shB A.sn A.mn, mpB A.mn t.sheet, mpB A.kn t.known]) (A := [shB A.sn A.mn, mpB A.mn t.sheet]) (.blk takeC (.blk takeC .nil))).symm) ?_
  rintro e A' ⟨A2, h3, g, cap, jk, h4, h5⟩
  subst h5; subst h3
  refine ⟨_, [], ?_, ⟨g, cap, jk, h4, rfl⟩⟩
  rw [List.append_nil]
  exact (TakesG.perm (M := [Tree.tB tn A t.d t.root, shB A.sn A.mn, mpB A.mn t.sheet, mpB A.kn t.known] ++ [⟨g, .row (flatV (srt t.sheet) ++ jk) 117⟩]) (A := [shB A.sn A.mn, mpB A.mn t.sheet, ⟨g, .row (flatV (srt t.sheet) ++ jk) 117⟩]) (.blk takeC (.blk takeC (.blk takeC .nil)))).symm
attribute [local irreducible] dgV D jC wrF rcC stC regC RgV.lay rgM setRegR writeR rcP recB begJ beginG bare BareT setG treC flatV Builtin.append_ Builtin.len_ appJ appX hmG srt roomJ
end Go.Proofs.YtkjamonkohpcnaaGreat.Stg
/- A scope with a label to which the run jumps back: a rule with what holds at the label. -/
namespace Go.Proofs.YtkjamonkohpcnaaGreat.Ev
open Go
set_option linter.unusedVariables false
set_option linter.unusedSimpArgs false
/-- Codes one behind another, and then d. -/
def glue : List Code → Code → Code
  | [], d => d
  | c :: t, d => .seq c (glue t d)
noncomputable def pw (P : Program) (pre : List Code) : List Value → List Blk → (List Value → List Blk → Prop) → Ks → Prop :=
  List.rec (motive := fun _ => List Value → List Blk → (List Value → List Blk → Prop) → Ks → Prop) (fun fr M k _ => k fr M)
    (fun c _ ih fr M k K => cw P c fr M fun e fr' M' => match e with | .normal => ih fr' M' k K | .goto _ => False | e => K e fr' M') pre
/-- What runs from a label on, in its scope. -/
structure LabW (P : Program) (l : Nat) (c D : Code) (fr : List Value) (M : List Blk) (K : Ks) : Prop where
  out : ∀ A w0 w ds, St A w0 w M → ∀ b k cs, ∃ e a' w', QQ A w0 ds K e a' w' ∧ Arrives P (lone (b.at ⟨fr.toArray, ds⟩ (.code D :: .inScope c :: k)) cs w) b k cs e a' w'
theorem pw_run {P : Program} {l : Nat} {c D : Code} {K : Ks} {A : List Blk} {w0 : World} {ds : List Deferred} : ∀ (pre : List Code) (fr : List Value) (M : List Blk) (w : World), pw P pre fr M (fun fr' M' => LabW P l c D fr' M' K) K → St A w0 w M →
    ∀ b k cs, ∃ e a' w', QQ A w0 ds K e a' w' ∧ Arrives P (lone (b.at ⟨fr.toArray, ds⟩ (.code (glue pre (.seq (.label l) D)) :: .inScope c :: k)) cs w) b k cs e a' w'
  | [], fr, M, w, h, st, b, k, cs => by
    have h : LabW P l c D fr M K := h
    obtain ⟨e, a', w', hq, harr⟩ := h.out A w0 w ds st b k cs
    exact ⟨e, a', w', hq, .of_steps (.head step_seq (.one step_label)) harr⟩
  | x :: t, fr, M, w, h, st, b, k, cs => by
    have h : cw P x fr M fun e fr' M' => match e with | .normal => pw P t fr' M' (fun fr' M' => LabW P l c D fr' M' K) K | .goto _ => False | e => K e fr' M' := h
    obtain ⟨e, a₁, w₁, hq, harr⟩ := cw_sound x fr M _ h A w0 w ds st b (.code (glue t (.seq (.label l) D)) :: .inScope c :: k) cs
    obtain ⟨fr₁, M₁, rfl, st₁, hk⟩ := hq
    cases e with
    | normal =>
      obtain ⟨e₂, a₂, w₂, hq₂, harr₂⟩ := pw_run t fr₁ M₁ w₁ hk st₁ b k cs
      exact ⟨e₂, a₂, w₂, hq₂, .of_steps (.head step_seq harr) harr₂⟩
    | exit id => exact ⟨.exit id, _, w₁, ⟨fr₁, M₁, rfl, st₁, hk⟩, fun k' hk' => .head step_seq (harr k' (by simp [exitTo, hk']))⟩
    | goto l' => exact hk.elim
    | ret => exact ⟨_, _, w₁, ⟨fr₁, M₁, rfl, st₁, hk⟩, .of_steps (.one step_seq) harr⟩
    | panic ch => exact ⟨_, _, w₁, ⟨fr₁, M₁, rfl, st₁, hk⟩, .of_steps (.one step_seq) harr⟩
    | outgrown => exact ⟨_, _, w₁, ⟨fr₁, M₁, rfl, st₁, hk⟩, .of_steps (.one step_seq) harr⟩
/-- A scope: what is ahead of its label. -/
theorem scope_lab {P : Program} {c D : Code} {fr : List Value} {M : List Blk} {K : Ks} (l : Nat) (pre : List Code) (hc : c = glue pre (.seq (.label l) D)) (h : pw P pre fr M (fun fr' M' => LabW P l c D fr' M' K) K) : CodeW P (.scope c) fr M K := by
  refine ⟨fun A w0 w ds st b k cs => ?_⟩
  obtain ⟨e, a', w', hq, harr⟩ := pw_run (A := A) (w0 := w0) (ds := ds) pre fr M w h st b k cs
  rw [← hc] at harr
  exact ⟨e, a', w', hq, .of_steps (.one step_scope) harr⟩
/-- THE RULE OF A LABEL: what holds of the slots 'sel' at the label (I), with a number that every jump lowers. -/
theorem lab_rule {P : Program} {l : Nat} {c D : Code} {fr : List Value} {M : List Blk} {K : Ks} (sel : List Nat) (I : List Value → List Blk → Nat → Prop)
    (hsel : sel.all (fun n => memB n (dsts D)) = true) (hf : findLabel c l = some (.seq .skip D))
    (h0 : getsK fr sel fun vs => Fin M fun A' => ∃ m, I vs A' m)
    (hstep : ∀ vs (junk : Nat → Value) M' m, I vs M' m → havocK (dsts D) sel vs junk fr 0 fun fr' => cw P D fr' M' fun e fr'' M'' => match e with
      | .goto l' => l' = l ∧ mask (dsts D) fr'' 0 = mask (dsts D) fr 0 ∧ getsK fr'' sel fun vs' => Fin M'' fun A' => ∃ m', m' < m ∧ I vs' A' m'
      | e => K e fr'' M'') : LabW P l c D fr M K := by
  refine ⟨fun A w0 w ds st => ?_⟩
  rw [getsK_eq] at h0
  obtain ⟨M0, st0, m0, h0⟩ := fin_out st h0
  have hsel' : ∀ n, n ∈ sel → memB n (dsts D) = true := fun n hn => List.all_eq_true.1 hsel n hn
  have key : ∀ m (fr' : List Value) M' w', St A w0 w' M' → agree (dsts D) fr fr' 0 → I (sel.map fun n => fr'.toArray.getD n undef) M' m → ∀ b k cs,
      ∃ e a' w'', QQ A w0 ds K e a' w'' ∧ Arrives P (lone (b.at ⟨fr'.toArray, ds⟩ (.code D :: .inScope c :: k)) cs w') b k cs e a' w'' := by
    intro m
    induction m using Nat.strongRecOn with
    | _ m ih =>
      intro fr' M' w' st' hag hI b k cs
      have hs := hstep _ (fun n => fr'.toArray.getD n undef) M' m hI
      rw [havocK_eq] at hs
      have e := havoc_id (dsts D) sel fr fr' 0 hag hsel'
      simp only [Nat.zero_le, if_true, Nat.sub_zero] at e
      rw [e] at hs
      have hg : gotoIn l (.inScope c :: k) = some (.code (.seq .skip D) :: .inScope c :: k) := by simp [gotoIn, hf]
      obtain ⟨e, a₁, w₁, hq, harr⟩ := cw_sound D fr' M' _ hs A w0 w' ds st' b (.inScope c :: k) cs
      obtain ⟨fr₁, M₁, rfl, st₁, hk⟩ := hq
      cases e with
      | normal => exact ⟨.normal, _, w₁, ⟨fr₁, M₁, rfl, st₁, hk⟩, Steps.trans harr (.one step_inScope)⟩
      | exit id => exact ⟨.exit id, _, w₁, ⟨fr₁, M₁, rfl, st₁, hk⟩, fun k' hk' => harr k' (by simp [exitTo, hk'])⟩
      | goto l' =>
        obtain ⟨rfl, hmk, hk⟩ := hk
        have hag₁ := agree_of_mask _ _ _ _ hmk
        rw [getsK_eq] at hk
        obtain ⟨M₂, st₂, m', hlt, hI'⟩ := fin_out st₁ hk
        obtain ⟨e₂, a₂, w₂, hq₂, harr₂⟩ := ih m' hlt fr₁ M₂ w₁ st₂ hag₁ hI' b k cs
        exact ⟨e₂, a₂, w₂, hq₂, .of_steps (Steps.trans (harr _ hg) (.head step_seq (.one step_skip))) harr₂⟩
      | ret => exact ⟨_, _, w₁, ⟨fr₁, M₁, rfl, st₁, hk⟩, harr⟩
      | panic ch => exact ⟨_, _, w₁, ⟨fr₁, M₁, rfl, st₁, hk⟩, harr⟩
      | outgrown => exact ⟨_, _, w₁, ⟨fr₁, M₁, rfl, st₁, hk⟩, harr⟩
  exact key m0 fr M0 w st0 (agree_refl _ _ _) h0
end Go.Proofs.YtkjamonkohpcnaaGreat.Ev
/- A store on any rig: a commit of the first device alone. -/
namespace Go.Proofs.YtkjamonkohpcnaaGreat.Stg
open Go Ev Sha Aes Orc Node Rec Chn Jrn Cau Sto Srt
open Rig (Fnc_takeR RigP Rg rgM readR writeR flushR setRegR z64 app_of tick comes write_ flush_ setreg_ mayE RigA)
open Tree (TreP TreA Tre treM shB mpB treC)
set_option linter.unusedVariables false
set_option linter.unusedSimpArgs false
set_option maxRecDepth 100000
/-- What a journal must be, that something may be appended. -/
structure JOk (J : JrP) (T : TreP) : Prop where
  ck : chkE (J.seq + 1) (srt T.sheet) = 0
  d : J.d ≤ 1
  area : J.area ≤ 1
  used : J.used ≤ 80
  sq : 0 ≤ J.seq
theorem room_beg (super : ByteArray) (d area : Nat) (seq : Int) (root : Dg) {n : Nat} (h1 : 1 ≤ n) (h2 : n ≤ 64) : roomJ (begJ super d area seq root) n = true := by
  have e : (begJ super d area seq root).used = 1 := by unfold begJ addJs jr0; rfl
  unfold roomJ
  rw [e]
  unfold rlen
  rw [if_neg (by omega)]
  exact decide_eq_true (by omega)
theorem begJ_f (super : ByteArray) (d area : Nat) (seq : Int) (root : Dg) : (begJ super d area seq root).seq = seq ∧ (begJ super d area seq root).d = d ∧ (begJ super d area seq root).area = area ∧ (begJ super d area seq root).used = 1 ∧ (begJ super d area seq root).root = root := ⟨rfl, rfl, rfl, rfl, rfl⟩
theorem set_at (y : RgV) (d : Nat) (a : Dg) (ar u : Int) : (y.set d a ar u).at_ = y.at_ := by unfold RgV.set; split <;> rfl
attribute [local irreducible] dgV D jC wrF rcC stC regC RgV.lay rgM setRegR writeR rcP recB begJ beginG bare BareT setG treC flatV Builtin.append_ Builtin.len_ appJ appX hmG srt roomJ
end Go.Proofs.YtkjamonkohpcnaaGreat.Stg
/- A store on any rig: new areas of both devices, in a commit. -/
namespace Go.Proofs.YtkjamonkohpcnaaGreat.Stg
open Go Ev Sha Aes Orc Node Rec Chn Jrn Cau Sto Srt
open Rig (Fnc_takeR RigP Rg rgM readR writeR flushR setRegR z64 app_of tick comes write_ flush_ setreg_ mayE RigA)
open Tree (TreP TreA Tre treM shB mpB treC)
set_option linter.unusedVariables false
set_option linter.unusedSimpArgs false
set_option maxRecDepth 100000
noncomputable def enA2 (super : ByteArray) (c : Cx) : Cx × Int :=
  if (areas2G super ⟨c.s, c.j0, c.j1, c.is⟩).2 = 0 then ({ c with s := (areas2G super ⟨c.s, c.j0, c.j1, c.is⟩).1.s, j0 := (areas2G super ⟨c.s, c.j0, c.j1, c.is⟩).1.j0, j1 := (areas2G super ⟨c.s, c.j0, c.j1, c.is⟩).1.j1, is := (areas2G super ⟨c.s, c.j0, c.j1, c.is⟩).1.y }, 0)
  else ({ c with s := (areas2G super ⟨c.s, c.j0, c.j1, c.is⟩).1.s, j0 := (areas2G super ⟨c.s, c.j0, c.j1, c.is⟩).1.j0, j1 := (areas2G super ⟨c.s, c.j0, c.j1, c.is⟩).1.j1 }, (areas2G super ⟨c.s, c.j0, c.j1, c.is⟩).2)
theorem ar0_ok {super : ByteArray} {q : Ax} (h : (ar0 super q).2 = 0) : ar0 super q = (⟨(beginG super 0 (1 - q.j0.area) q.j0.seq q.j0.root q.s).1, begJ super 0 (1 - q.j0.area) q.j0.seq q.j0.root, q.j1, q.y.set 0 (begJ super 0 (1 - q.j0.area) q.j0.seq q.j0.root).anchor (1 - q.j0.area : Nat) 1⟩, 0) := by
  by_cases e : (beginG super 0 (1 - q.j0.area) q.j0.seq q.j0.root q.s).2 = 0
  · unfold ar0; exact if_pos e
  · unfold ar0 at h; rw [if_neg e] at h; exact absurd h e
theorem ar1_ok {super : ByteArray} {q : Ax} (h : (ar1 super q).2 = 0) : ar1 super q = (⟨(beginG super 1 (1 - q.j1.area) q.j1.seq q.j1.root q.s).1, q.j0, begJ super 1 (1 - q.j1.area) q.j1.seq q.j1.root, q.y.set 1 (begJ super 1 (1 - q.j1.area) q.j1.seq q.j1.root).anchor (1 - q.j1.area : Nat) 1⟩, 0) := by
  by_cases e : (beginG super 1 (1 - q.j1.area) q.j1.seq q.j1.root q.s).2 = 0
  · unfold ar1; exact if_pos e
  · unfold ar1 at h; rw [if_neg e] at h; exact absurd h e
theorem bd_two {σ τ : Type} {x : σ × Int} {g : σ → σ × Int} (h : (bd (τ := τ) x g).2 = 0) : x.2 = 0 ∧ bd (τ := τ) x g = g x.1 := by
  by_cases e : x.2 = 0
  · exact ⟨e, if_pos e⟩
  · rw [bd_no e] at h; exact absurd h e
theorem areas2_ok {super : ByteArray} {q : Ax} (h : (areas2G super q).2 = 0) : (areas2G super q).1.j0 = begJ super 0 (1 - q.j0.area) q.j0.seq q.j0.root ∧ (areas2G super q).1.j1 = begJ super 1 (1 - q.j1.area) q.j1.seq q.j1.root ∧ (areas2G super q).1.y.at_ = q.y.at_ ∧ (areas2G super q).1.s.ts.length ≤ q.s.ts.length + 4 := by
  unfold areas2G at h ⊢
  obtain ⟨h1, e1⟩ := bd_two h
  rw [e1] at h ⊢
  obtain ⟨h2, e2⟩ := bd_two h
  rw [e2] at h ⊢
  rw [ar0_ok h2] at h ⊢
  obtain ⟨h3, e3⟩ := bd_two h
  rw [e3] at h ⊢
  rw [ar1_ok h3] at h ⊢
  obtain ⟨h4, e4⟩ := bd_two h
  rw [e4]
  have l1 := beginG_len super 0 (1 - q.j0.area) q.j0.seq q.j0.root (flA [0, 1] q).1.s
  have l2 := beginG_len super 1 (1 - q.j1.area) q.j1.seq q.j1.root (beginG super 0 (1 - q.j0.area) q.j0.seq q.j0.root (flA [0, 1] q).1.s).1
  have l0 : (flA [0, 1] q).1.s.ts = q.s.ts := rfl
  rw [l0] at l1
  exact ⟨rfl, rfl, (set_at _ _ _ _ _).trans (set_at _ _ _ _ _), by exact Nat.le_trans l2 (by omega)⟩
/-- What a journal must be, that its area may be begun anew. -/
structure JAr (J : JrP) : Prop where
  area : J.area ≤ 1
  sq : seqOk J.seq
def StP.wkk (x : StP) (p0 p1 : Nat) (y n : RgV) : StP := StP.wn (StP.wjj x p0 p1 y) y n
def CTQ (a : RigA) (o : Orc) (sn tn0 tn1 : Nat) (x : StP) (A0 A1 : TreA) (q : Cx × Int) : Ending → List Blk → Prop := fun e M =>
  ∃ (o' : Orc) (A0' A1' : TreA) (p0 p1 : Nat), o'.on = o.on ∧ o'.ts = q.1.s.ts ∧ A0'.rn = A0.rn ∧ A0'.on = A0.on ∧ A1'.rn = A1.rn ∧ A1'.on = A1.on ∧ Pe q.2 e ∧
    M = rgM ⟨a, q.1.s.r⟩ ++ (orcM o' ++ (stB sn (StP.wkk x p0 p1 q.1.is q.1.next) :: (jB p0 a.rn o.on q.1.j0 :: (jB p1 a.rn o.on q.1.j1 :: (treM tn0 ⟨A0', q.1.t0⟩ ++ treM tn1 ⟨A1', q.1.t1⟩)))))
end Go.Proofs.YtkjamonkohpcnaaGreat.Stg
/- Rows of numbers. -/
namespace Go.Proofs.YtkjamonkohpcnaaGreat.Ivs
open Go Ev Sha Aes
set_option linter.unusedVariables false
set_option linter.unusedSimpArgs false
set_option maxRecDepth 100000
structure RwP where
  next : Int
  top : Int
  many : Int
abbrev rwB (n : Nat) (x : RwP) : Blk := ⟨n, .cells [.int .i64 x.next, .int .i64 x.top, .int .i64 x.many] 224⟩
def rowOk (x : RwP) : Prop := 0 ≤ x.next ∧ x.next ≤ x.top ∧ x.top ≤ x.many ∧ x.many ≤ 1099511627776
theorem within (n least most : Int) : Fnc Tryz.prog 152 [.int .i64 n, .int .i64 least, .int .i64 most] [] (Ret (.bool (decide (least ≤ n ∧ n ≤ most))) []) := by
  refine fn_intro Tryz.func152 (by kernel_rfl) ?_
  repeat' ((conv => whnf); first
      | (refine ifs (fun h => ?_) (fun h => ?_) <;> (try (exfalso; first | omega | with_reducible contradiction | with_reducible exact h rfl))))
  all_goals (conv => whnf)
  · rw [decide_eq_true (by omega)]; exact fin_nil ⟨rfl, rfl⟩
  · rw [decide_eq_false (by omega)]; exact fin_nil ⟨rfl, rfl⟩
  · rw [decide_eq_false (by omega)]; exact fin_nil ⟨rfl, rfl⟩
theorem inew (from_ many : Int) (h : 1 ≤ many ∧ many ≤ 1099511627776 ∧ 0 ≤ from_ ∧ from_ ≤ many) : Fnc Tryz.prog 87 [.int .i64 from_, .int .i64 many] [] (fun e A => ∃ n, e = .returned (.tuple #[pt n, .int .i64 0]) ∧ A = [rwB n ⟨from_, from_, many⟩]) := by
  have h1 := within many 1 1099511627776
  have h2 := within from_ 0 many
  rw [decide_eq_true (by omega)] at h1
  rw [decide_eq_true (by omega)] at h2
  refine fn_intro Tryz.func87 (by kernel_rfl) ?_
  repeat' ((conv => whnf); first
      | refine call_val h1 ?_
      | refine call_val h2 ?_
      | refine nw (fun n => ?_)
      | refine bld ?_)
  all_goals (conv => whnf)
  all_goals exact fin_all ⟨n, rfl, rfl⟩
def needN (x : RwP) : Int := if x.next < x.top ∨ x.many ≤ x.top then 0 else min (x.top + 16) x.many
def needB (x : RwP) : Bool := decide (¬ (x.next < x.top ∨ x.many ≤ x.top))
theorem need_ (n : Nat) (x : RwP) (h : rowOk x) : Fnc Tryz.prog 224 [pt n] [rwB n x] (Ret (.tuple #[.int .i64 (needN x), .bool (needB x)]) [rwB n x]) := by
  unfold rowOk at h
  refine fn_intro Tryz.func224 (by kernel_rfl) ?_
  repeat' ((conv => whnf); first
      | refine draw_tree 1 (.take 0 (.take 1 (.take 2 (.take 3 (.take 4 (.take 5 (.take 6 (.take 7 (.take 8 (.take 9 (.take 10 (.take 11 (.take 12 (.take 13 (.take 14 (.take 15 (.take 16 (.take 17 (.take 18 (.take 19 (.take 20 (.take 21 (.take 22 (.take 23 .nil)))))))))))))))))))))))) [⟨n, _⟩] rfl (by kernel_rfl) (kept1 ?_)
      | refine draw_tree 3 (.take 0 (.take 1 (.take 2 (.take 3 (.take 4 (.take 5 (.take 6 (.take 7 (.take 8 (.only 9 (.take 10 (.take 11 .nil)))))))))))) [⟨n, _⟩] rfl (by kernel_rfl) (kept1 ?_)
      | refine kept1 ?_
      | refine fld1 ?_
      | (refine wr (fun z hz => ?_); (try rw [Int.tdiv_eq_ediv_of_nonneg (by omega)] at hz); rw [w64 (by omega) (by omega)] at hz; subst hz)
      | (refine ifs (fun h => ?_) (fun h => ?_) <;> (try (exfalso; first | omega | with_reducible contradiction | with_reducible exact h rfl))))
  all_goals (conv => whnf)
  · rw [show needN x = 0 by unfold needN; rw [if_pos (by omega)], show needB x = false by unfold needB; exact decide_eq_false (by omega)]; exact fin_all ⟨rfl, rfl⟩
  · rw [show needN x = 0 by unfold needN; rw [if_pos (by omega)], show needB x = false by unfold needB; exact decide_eq_false (by omega)]; exact fin_all ⟨rfl, rfl⟩
  · rw [show needN x = x.many by unfold needN; rw [if_neg (by omega)]; omega, show needB x = true by unfold needB; exact decide_eq_true (by omega)]; exact fin_all ⟨rfl, rfl⟩
  · rw [show needN x = x.top + 16 by unfold needN; rw [if_neg (by omega)]; omega, show needB x = true by unfold needB; exact decide_eq_true (by omega)]; exact fin_all ⟨rfl, rfl⟩
theorem iraise (n : Nat) (x : RwP) (top : Int) (h : x.top < top ∧ top ≤ x.many) : Fnc Tryz.prog 225 [pt n, .int .i64 top] [rwB n x] (Ret (.int .i64 0) [rwB n { x with top := top }]) := by
  refine fn_intro Tryz.func225 (by kernel_rfl) ?_
  repeat' ((conv => whnf); first
      | refine ld1_lit ?_
      | refine st_lit rfl ?_
      | refine need (by first | rfl | omega) ?_
      | (refine ifs (fun h => ?_) (fun h => ?_) <;> (try (exfalso; first | omega | with_reducible contradiction | with_reducible exact h rfl))))
  all_goals (conv => whnf)
  all_goals exact fin_all ⟨rfl, rfl⟩
theorem itake (n : Nat) (x : RwP) (h : rowOk x) (h2 : x.next < x.top) : Fnc Tryz.prog 226 [pt n] [rwB n x] (Ret (.tuple #[.int .i64 x.next, .int .i64 0]) [rwB n { x with next := x.next + 1 }]) := by
  unfold rowOk at h
  refine fn_intro Tryz.func226 (by kernel_rfl) ?_
  repeat' ((conv => whnf); first
      | refine draw_tree 3 (.take 0 (.take 1 (.take 2 (.take 3 (.take 4 (.take 5 (.take 6 (.take 7 (.take 8 (.take 9 .nil)))))))))) [⟨n, _⟩] rfl (by kernel_rfl) (kept1 ?_)
      | refine draw_tree 5 (.take 0 (.take 1 (.take 2 (.take 3 (.take 4 (.take 5 (.take 6 (.take 7 (.take 8 (.take 9 .nil)))))))))) [⟨n, _⟩] rfl (by kernel_rfl) (kept1 ?_)
      | refine fld1 ?_
      | refine ld1_lit ?_
      | refine st_lit rfl ?_
      | refine need (by first | rfl | omega) ?_
      | (refine wr (fun z hz => ?_); (try rw [Int.tdiv_eq_ediv_of_nonneg (by omega)] at hz); rw [w64 (by omega) (by omega)] at hz; subst hz)
      | (refine ifs (fun h => ?_) (fun h => ?_) <;> (try (exfalso; first | omega | with_reducible contradiction | with_reducible exact h rfl))))
  all_goals (conv => whnf)
  all_goals rw [show x.next + 1 - 1 = x.next by omega]
  all_goals exact fin_all ⟨rfl, rfl⟩
theorem ileft (n : Nat) (x : RwP) (h : rowOk x) : Fnc Tryz.prog 136 [pt n] [rwB n x] (Ret (.int .i64 (x.many - x.next)) [rwB n x]) := by
  unfold rowOk at h
  refine fn_intro Tryz.func136 (by kernel_rfl) ?_
  repeat' ((conv => whnf); first
      | refine draw_tree 3 (.take 0 (.take 1 (.take 2 (.take 3 (.take 4 (.take 5 (.take 6 (.take 7 (.take 8 (.take 9 .nil)))))))))) [⟨n, _⟩] rfl (by kernel_rfl) (kept1 ?_)
      | refine fld1 ?_
      | (refine wr (fun z hz => ?_); (try rw [Int.tdiv_eq_ediv_of_nonneg (by omega)] at hz); rw [w64 (by omega) (by omega)] at hz; subst hz))
  all_goals (conv => whnf)
  all_goals exact fin_all ⟨rfl, rfl⟩
end Go.Proofs.YtkjamonkohpcnaaGreat.Ivs
/- A block encrypted: the rounds. -/
namespace Go.Proofs.YtkjamonkohpcnaaGreat.Aes
open Go Ev Sha
set_option linter.unusedVariables false
set_option linter.unusedSimpArgs false
set_option maxRecDepth 100000
theorem by8_0 : by8 0 := by unfold by8; omega
theorem rounds_0 (k s : Nat → Int) : rounds k s 0 = add16 k 0 s := rfl
theorem rounds_succ (k s : Nat → Int) (n : Nat) : rounds k s (n + 1) = add16 k (n + 1) (mixs (imgs k (rounds k s n) 16) 16) := rfl
theorem by8_adds {k : Nat → Int} {n : Nat} {s : Nat → Int} (hs : ∀ j, by8 (s j)) : ∀ i j, by8 (adds k n s i j)
  | 0 => by rw [adds_0]; exact hs
  | i + 1 => by rw [adds_succ]; exact by8_updF (by8_adds hs i) (by8_bx _ _)
theorem by8_imgs {k s : Nat → Int} (hk : ∀ j, by8 (k j)) : ∀ i j, by8 (imgs k s i j)
  | 0 => by rw [imgs_0]; intro j; exact by8_0
  | i + 1 => by rw [imgs_succ]; exact by8_updF (by8_imgs hk i) (hk _)
theorem by8_mixs {s : Nat → Int} : ∀ i j, by8 (mixs s i j)
  | 0 => by rw [mixs_0]; intro j; exact by8_0
  | i + 1 => by rw [mixs_succ]; exact by8_updF (by8_mixs i) (by8_bx _ _)
theorem by8_bytesT (s : ByteArray) (j : Nat) : by8 (bytesT s j) := by
  unfold bytesT; split
  · exact by8_byte _ _
  · unfold by8; omega
theorem by8_rounds {k s : Nat → Int} (hs : ∀ j, by8 (s j)) : ∀ n j, by8 (rounds k s n j)
  | 0 => by rw [rounds_0]; exact by8_adds hs 16
  | n + 1 => by rw [rounds_succ]; exact by8_adds (by8_mixs 16) 16
theorem by8_cipher {k : Nat → Int} (hk : ∀ j, by8 (k j)) (s : ByteArray) (j : Nat) : by8 (cipher k s j) := by8_adds (by8_imgs hk 16) 16 j
theorem cipher_eq (k : Nat → Int) (s : ByteArray) : cipher k s = add16 k 14 (imgs k (rounds k (bytesT s) 13) 16) := rfl
theorem row16_u8 {t : Nat → Int} (ht : ∀ j, by8 (t j)) : row16 t = u8s ((List.range 16).map fun j => UInt8.ofNat (t j).toNat) ++ [] := by
  rw [List.append_nil]
  unfold row16 u8s
  rw [List.map_map]
  refine List.map_congr_left fun j _ => ?_
  have := ht j
  unfold by8 at this
  show Value.int .u8 (t j) = .int .u8 (((UInt8.ofNat (t j).toNat).toNat : Nat) : Int)
  rw [UInt8.toNat_ofNat']
  congr 1
  omega
attribute [local irreducible] add16 rounds cipher imgs mixs adds row16 rowK
set_option maxHeartbeats 4000000 in
theorem encrypt_ (kn : Nat) (k : Nat → Int) (s : ByteArray) (hs : s.size = 16) (hk : ∀ j, by8 (k j)) : Fnc Tryz.prog 227 [pt kn, .string s] [kB kn k] (Ret (.tuple #[.string (enc k s), .int .i64 0]) [kB kn k]) := by
  have hr := by8_rounds (k := k) (by8_bytesT s)
  refine fn_intro Tryz.func227 (by kernel_rfl) ?_
  repeat' ((conv => whnf); first
      | refine call_ret (begin_ kn k s hs) (.cons takeC .nil) ?_
      | refine call_ret (add_16 kn k _ 0 (by omega)) (.cons takeC .nil) ?_
      | refine force_of ?_
      | refine need (row16_len _) ?_
      | refine nw_row row16_z (fun n => ?_)
      | refine ldN_whole (row16_len _) ?_
      | refine st_16w ?_
      | (refine ifs (fun h => ?_) (fun h => ?_) <;> (try (exfalso; first | omega | with_reducible contradiction | with_reducible exact h rfl))))
  refine loop_rule [8] (fun vs M m => ∃ i : Nat, vs = [.int .i64 ((i + 1 : Nat) : Int)] ∧ i ≤ 13 ∧ m = 13 - i ∧ M = [kB kn k, sB n (rounds k (bytesT s) i)]) rfl ?_ ?_
  · exact fin_all ⟨_, 0, rfl, by omega, rfl, by rw [rounds_0]⟩
  rintro vs junk M' m ⟨i, rfl, hi, rfl, rfl⟩
  have hsum : s = s := rfl
  repeat' ((conv => whnf); first
      | refine call_ret (images_ kn k _ (hr i)) (.cons takeC .nil) ?_
      | refine call_val (mix_ _) ?_
      | refine call_ret (add_16 kn k _ 14 (by omega)) (.cons takeC .nil) ?_
      | refine call_ret (add_16 kn k _ (i + 1) (by omega)) (.cons takeC .nil) ?_
      | refine force_of ?_
      | refine need (row16_len _) ?_
      | refine ldN_whole (n := n) (row16_len _) ?_
      | refine st_16w (n := n) ?_
      | refine nv_eq (a := 0) rfl ?_
      | refine nv_eq (a := 16) rfl ?_
      | refine need (by first | rfl | omega) ?_
      | (refine wr (fun z hz => ?_); (try rw [Int.tdiv_eq_ediv_of_nonneg (by omega)] at hz); rw [w64 (by omega) (by omega)] at hz; subst hz)
      | (refine ifs (fun h => ?_) (fun h => ?_) <;> (try (exfalso; first | omega | with_reducible contradiction | with_reducible exact h rfl))))
  all_goals (conv => whnf)
  · exact ⟨rfl, fin_pick (A' := [⟨kn, _⟩, ⟨n, _⟩]) (.cons takeC (.cons takeC .nil)) ⟨13 - (i + 1), by omega, i + 1, rfl, by omega, rfl, by rw [rounds_succ]⟩⟩
  · obtain rfl : i = 13 := by omega
    repeat' ((conv => whnf); first
        | refine b2s_row (n := n) (t := 319) (l := (List.range 16).map fun j => UInt8.ofNat (cipher k s j).toNat) (junk := []) (by rw [cipher_eq]; exact row16_u8 (by intro j; rw [← cipher_eq]; exact by8_cipher hk s j)) rfl rfl rfl (by simp) ?_)
    all_goals (conv => whnf)
    exact fin_pick (A' := [⟨kn, _⟩]) (.cons takeC .nil) ⟨rfl, rfl⟩
end Go.Proofs.YtkjamonkohpcnaaGreat.Aes
/- Sealed blocks. -/
namespace Go.Proofs.YtkjamonkohpcnaaGreat.Ctr
open Go Ev Sha Aes
set_option linter.unusedVariables false
set_option linter.unusedSimpArgs false
set_option maxRecDepth 100000
theorem enc_size (k : Nat → Int) (s : ByteArray) : (enc k s).size = 16 := by unfold enc; rw [Ev.str_size]; simp
def numOk (n : Int) : Prop := 0 ≤ n ∧ n ≤ 1099511627776
theorem right_ok (n : Int) (h : numOk n) : Fnc Tryz.prog 113 [.int .i64 n] [] (Ret (.bool true) []) := by
  unfold numOk at h
  refine fn_intro Tryz.func113 (by kernel_rfl) ?_
  repeat' ((conv => whnf); first
      | (refine ifs (fun h => ?_) (fun h => ?_) <;> (try (exfalso; first | omega | with_reducible contradiction | with_reducible exact h rfl))))
  all_goals (conv => whnf)
  all_goals exact fin_nil ⟨rfl, rfl⟩
theorem right_no (n : Int) (h : ¬ numOk n) : Fnc Tryz.prog 113 [.int .i64 n] [] (Ret (.bool false) []) := by
  unfold numOk at h
  refine fn_intro Tryz.func113 (by kernel_rfl) ?_
  repeat' ((conv => whnf); first
      | (refine ifs (fun h => ?_) (fun h => ?_) <;> (try (exfalso; first | omega | with_reducible contradiction | with_reducible exact h rfl))))
  all_goals (conv => whnf)
  all_goals exact fin_nil ⟨rfl, rfl⟩
theorem putE8 {n : Int} (h : numOk n) : Be.putE n 8 = 0 := Be.putE_ok (by omega) (by unfold numOk at h; omega)
theorem putS8 {n : Int} (h : numOk n) : (Be.putS n 8).size = 8 := by rw [Be.putS_ok (putE8 h), Ev.str_size, Be.bb_length]; rfl
/-- One piece of a stream. -/
def pce (k : Nat → Int) (at_ : ByteArray) (j : Nat) : ByteArray := enc k (at_ ++ str [0, 0, 0, 0, 0, 0, 0, UInt8.ofNat j])
def strm (k : Nat → Int) (n : Int) : List UInt8 := (pce k (Be.putS n 8) 0).data.toList ++ (pce k (Be.putS n 8) 1).data.toList ++ (pce k (Be.putS n 8) 2).data.toList
theorem pce_size (k : Nat → Int) (a : ByteArray) (j : Nat) : (pce k a j).size = 16 := enc_size _ _
theorem strm_len (k : Nat → Int) (n : Int) : (strm k n).length = 48 := by
  unfold strm
  simp only [List.length_append]
  have h : ∀ j, (pce k (Be.putS n 8) j).data.toList.length = 16 := fun j => pce_size _ _ _
  rw [h, h, h]
attribute [local irreducible] convert Builtin.copy_ Builtin.append_ pce enc Be.putS Be.putE
abbrev cF (c kn : Nat) : Blk := ⟨c, .cells [.func (.func 227) #[pt kn] #[]] 194⟩
abbrev cS (c : Nat) (s : ByteArray) : Blk := ⟨c, .cells [.string s] 9⟩
theorem piece (kn c8 c10 : Nat) (k : Nat → Int) (at_ : ByteArray) (j : Nat) (hk : ∀ i, by8 (k i)) (hs : at_.size = 8) (hj : j < 256) :
    Fnc Tryz.prog 228 [.int .i64 j, pt c10, pt c8] [cF c10 kn, cS c8 at_, kB kn k] (Ret (.string (pce k at_ j)) [cF c10 kn, cS c8 at_, kB kn k]) := by
  have he := encrypt_ kn k (at_ ++ str [0, 0, 0, 0, 0, 0, 0, UInt8.ofNat j]) (by rw [ByteArray.size_append, Ev.str_size, hs]; rfl) hk
  rw [show enc k (at_ ++ str [0, 0, 0, 0, 0, 0, 0, UInt8.ofNat j]) = pce k at_ j by unfold pce; rfl] at he
  have hw : IntKind.u8.wrap (j : Int) = ((UInt8.ofNat j).toNat : Int) := by rw [IntKind.wrap_u8, UInt8.toNat_ofNat']; omega
  refine fn_intro Tryz.func228 (by kernel_rfl) ?_
  repeat' ((conv => whnf); first
      | (refine wr8 (fun z hz => ?_); rw [hw] at hz; subst hz)
      | refine b2s_lit (l := [0, 0, 0, 0, 0, 0, 0, UInt8.ofNat j]) (junk := []) rfl rfl rfl rfl rfl ?_
      | refine need (by rw [show IntKind.i64.max = 9223372036854775807 from rfl, Ev.str_size, hs]; show ((8 + 8 : Nat) : Int) ≤ _; omega) ?_
      | refine sv_id ?_
      | refine call_gr he (.blk takeC .nil) ?_
      | refine ld1_lit ?_
      | refine nw (fun n => ?_)
      | refine bld ?_)
  all_goals (conv => whnf)
  all_goals exact fin_g (A := [⟨c10, _⟩, ⟨c8, _⟩, ⟨kn, _⟩]) (.blk takeC (.blk takeC (.blk takeC .nil))) ⟨rfl, rfl⟩
instance (priority := 3000) ZipO_nil {M : List Blk} {e : TypeId} : ZipO M .nil e [] (fun l => l ++ M) := ⟨⟨[], M, rfl, fun _ => rfl⟩⟩
def s1 (k : Nat → Int) (n : Int) : List UInt8 := (pce k (Be.putS n 8) 0).data.toList
def s2 (k : Nat → Int) (n : Int) : List UInt8 := s1 k n ++ (pce k (Be.putS n 8) 1).data.toList
theorem e1 (k : Nat → Int) (n : Int) : [] ++ u8s (pce k (Be.putS n 8) 0).data.toList = u8s (s1 k n) := rfl
theorem e2 (k : Nat → Int) (n : Int) : u8s (s1 k n) ++ u8s (pce k (Be.putS n 8) 1).data.toList = u8s (s2 k n) := by unfold s2; rw [u8s_append]
theorem e3 (k : Nat → Int) (n : Int) : u8s (s2 k n) ++ u8s (pce k (Be.putS n 8) 2).data.toList = u8s (strm k n) := by unfold strm s2 s1; rw [u8s_append (_ ++ _)]
theorem z1 (k : Nat → Int) (n : Int) : 0 + (pce k (Be.putS n 8) 0).size = 16 := by rw [pce_size]
theorem z2 (k : Nat → Int) (n : Int) : 16 + (pce k (Be.putS n 8) 1).size = 32 := by rw [pce_size]
theorem z3 (k : Nat → Int) (n : Int) : 32 + (pce k (Be.putS n 8) 2).size = 48 := by rw [pce_size]
theorem le1 (k : Nat → Int) (n : Int) : 0 + (pce k (Be.putS n 8) 0).size ≤ 140737488355328 := by rw [z1]; omega
theorem le2 (k : Nat → Int) (n : Int) : 16 + (pce k (Be.putS n 8) 1).size ≤ 140737488355328 := by rw [z2]; omega
theorem le3 (k : Nat → Int) (n : Int) : 32 + (pce k (Be.putS n 8) 2).size ≤ 140737488355328 := by rw [z3]; omega
attribute [local irreducible] s1 s2 strm
set_option maxHeartbeats 2000000 in
theorem stream (kn : Nat) (k : Nat → Int) (u : Int) (hk : ∀ i, by8 (k i)) (hn : numOk u) :
    Fnc Tryz.prog 189 [pt kn, .int .i64 u, .int .i64 48] [kB kn k] (Ret (.tuple #[.string (str (strm k u)), .int .i64 0]) [kB kn k]) := by
  have hr := right_ok u hn
  have hp := Be.put u 8
  rw [putE8 hn] at hp
  have hs := putS8 hn
  have hpc := fun c8 c10 j hj => piece kn c8 c10 k (Be.putS u 8) j hk hs hj
  refine fn_intro Tryz.func189 (by kernel_rfl) ?_
  repeat' ((conv => whnf); first
      | refine call_val hr ?_
      | refine call_val hp ?_
      | refine loop_n 4 ?_
      | refine call_gr (hpc _ _ 0 (by omega)) (.blk takeC (.blk takeC (.blk takeC .nil))) ?_
      | refine call_gr (hpc _ _ 1 (by omega)) (.blk takeC (.blk takeC (.blk takeC .nil))) ?_
      | refine call_gr (hpc _ _ 2 (by omega)) (.blk takeC (.blk takeC (.blk takeC .nil))) ?_
      | (refine app_str (S := .nil) (n := 0) (xs := []) rfl rfl rfl rfl rfl rfl ⟨rfl, rfl⟩ (le1 k _) (fun S1 h1 => ?_); rw [z1, e1] at h1 ⊢)
      | (refine app_str (S := S1) (n := 16) (xs := u8s (s1 k _)) rfl rfl rfl rfl rfl rfl h1 (le2 k _) (fun S2 h2 => ?_); rw [z2, e2] at h2 ⊢)
      | (refine app_str (S := S2) (n := 32) (xs := u8s (s2 k _)) rfl rfl rfl rfl rfl rfl h2 (le3 k _) (fun S3 h3 => ?_); rw [z3, e3] at h3 ⊢)
      | refine nw (fun n => ?_)
      | refine st_lit rfl ?_
      | refine need (by first | rfl | omega) ?_
      | (refine wr (fun z hz => ?_); (try rw [Int.tdiv_eq_ediv_of_nonneg (by omega)] at hz); rw [w64 (by omega) (by omega)] at hz; subst hz)
      | (refine ifs (fun h => ?_) (fun h => ?_) <;> (try (exfalso; first | omega | with_reducible contradiction | with_reducible exact h rfl))))
  all_goals (conv => whnf)
  cases S3 with
  | nil => have h48 : (48 : Nat) = 0 := h3.2; omega
  | at_ g cap junk =>
    obtain ⟨_, hc, _⟩ := h3
    repeat' ((conv => whnf); first
        | refine need ⟨by omega, by omega, Int.ofNat_le.2 hc⟩ ?_
        | refine nv_eq (a := 0) (by show (if cap = 0 then 0 else 0) = 0; split <;> rfl) ?_
        | refine nv_eq (a := 48) rfl ?_
        | refine nv_eq (a := cap) rfl ?_
        | refine b2s_row (n := g) (t := 5) (cs := u8s (strm k u) ++ junk) (hk := ⟨by simp [Own.blk]⟩) (l := strm k u) (junk := junk) rfl rfl rfl rfl (strm_len _ _).symm ?_)
    all_goals (conv => whnf)
    all_goals exact fin_pick (A' := [kB kn k]) (.cons takeC .nil) ⟨rfl, rfl⟩
def cry (k : Nat → Int) (u : Int) (s : ByteArray) : ByteArray := str (Be.xo s (str (strm k u)))
theorem xorS_eq {a b : ByteArray} (h : a.size = b.size) : Be.xorS a b = str (Be.xo a b) ∧ Be.xorE a b = 0 := by
  unfold Be.xorS Be.xorE
  constructor
  · rw [if_pos h]
  · rw [if_pos h]
theorem cry_size (k : Nat → Int) (u : Int) (s : ByteArray) (hs : s.size = 48) : (cry k u s).size = 48 := by
  unfold cry; rw [Ev.str_size, Be.xo_length (by rw [Ev.str_size, strm_len, hs]), hs]
theorem xor_twice : ∀ (a b : List UInt8), a.length = b.length → List.zipWith (fun x y => x ^^^ y) (List.zipWith (fun x y => x ^^^ y) a b) b = a
  | [], [], _ => rfl
  | x :: a, y :: b, h => by
    simp only [List.zipWith_cons_cons]
    rw [xor_twice a b (by simpa using h), UInt8.xor_assoc, UInt8.xor_self, UInt8.xor_zero]
theorem cry_back (k : Nat → Int) (u : Int) (s : ByteArray) (hs : s.size = 48) : cry k u (cry k u s) = s := by
  unfold cry Be.xo
  rw [Ev.str_data, Ev.str_data, xor_twice _ _ (by rw [strm_len]; exact hs)]
  exact str_eta s
attribute [local irreducible] cry
theorem crypt (kn : Nat) (k : Nat → Int) (u : Int) (s : ByteArray) (hk : ∀ i, by8 (k i)) (hn : numOk u) (hs : s.size = 48) :
    Fnc Tryz.prog 140 [pt kn, .int .i64 u, .string s] [kB kn k] (Ret (.tuple #[.string (cry k u s), .int .i64 0]) [kB kn k]) := by
  have h1 := stream kn k u hk hn
  rw [show (48 : Int) = ((s.size : Nat) : Int) by omega] at h1
  have h2 := Be.xor s (str (strm k u)) (by omega)
  obtain ⟨x1, x2⟩ := xorS_eq (a := s) (b := str (strm k u)) (by rw [Ev.str_size, strm_len, hs])
  rw [x1, x2, show str (Be.xo s (str (strm k u))) = cry k u s by unfold cry; rfl] at h2
  refine fn_intro Tryz.func140 (by kernel_rfl) ?_
  repeat' ((conv => whnf); first
      | refine call_gr h1 (.blk takeC .nil) ?_
      | refine call_val h2 ?_
      | (refine ifs (fun h => ?_) (fun h => ?_) <;> (try (exfalso; first | omega | with_reducible contradiction | with_reducible exact h rfl))))
  all_goals (conv => whnf)
  all_goals exact fin_all ⟨rfl, rfl⟩
end Go.Proofs.YtkjamonkohpcnaaGreat.Ctr
/- Blocks: laid, sealed, unsealed. -/
namespace Go.Proofs.YtkjamonkohpcnaaGreat.Ctr
open Go Ev Sha Aes
set_option linter.unusedVariables false
set_option linter.unusedSimpArgs false
set_option maxRecDepth 100000
def headS (u : Int) (kd : Nat) : ByteArray := Be.putS u 8 ++ str [UInt8.ofNat kd, 0, 0, 0, 0, 0, 0, 0]
def layB (u : Int) (kd : Nat) (s : ByteArray) : ByteArray := headS u kd ++ s
theorem headS_size {u : Int} (h : numOk u) (kd : Nat) : (headS u kd).size = 16 := by unfold headS; rw [ByteArray.size_append, putS8 h, Ev.str_size]; rfl
theorem layB_size {u : Int} (h : numOk u) (kd : Nat) {s : ByteArray} (hs : s.size = 48) : (layB u kd s).size = 64 := by unfold layB; rw [ByteArray.size_append, headS_size h, hs]
attribute [local irreducible] convert Builtin.copy_ Builtin.append_ pce enc Be.putS Be.putE strm cry
theorem lay_ (u : Int) (kd : Nat) (s : ByteArray) (hn : numOk u) (hk : kd = 1 ∨ kd = 2) (hs : s.size = 48) : Fnc Tryz.prog 114 [.int .i64 u, .int .i64 kd, .string s] [] (Ret (.string (layB u kd s)) []) := by
  have hp := Be.put u 8
  rw [putE8 hn] at hp
  have h8 := putS8 hn
  have hw : IntKind.u8.wrap (kd : Int) = ((UInt8.ofNat kd).toNat : Int) := by rw [IntKind.wrap_u8, UInt8.toNat_ofNat']; omega
  refine fn_intro Tryz.func114 (by kernel_rfl) ?_
  repeat' ((conv => whnf); first
      | refine call_val hp ?_
      | (refine wr8 (fun z hz => ?_); rw [hw] at hz; subst hz)
      | refine b2s_lit (l := [UInt8.ofNat kd, 0, 0, 0, 0, 0, 0, 0]) (junk := []) rfl rfl rfl rfl rfl ?_
      | refine need (by rw [show IntKind.i64.max = 9223372036854775807 from rfl, Ev.str_size, h8]; show ((8 + 8 : Nat) : Int) ≤ _; omega) ?_
      | refine need (by rw [show IntKind.i64.max = 9223372036854775807 from rfl, ByteArray.size_append, Ev.str_size, h8, hs]; show ((8 + 8 + 48 : Nat) : Int) ≤ _; omega) ?_
      | refine sv_id ?_
      | refine nw (fun n => ?_)
      | refine bld ?_)
  all_goals (conv => whnf)
  all_goals exact fin_pick (A' := []) .nil ⟨rfl, rfl⟩
theorem seal_ (kn : Nat) (k : Nat → Int) (u : Int) (s : ByteArray) (hk : ∀ i, by8 (k i)) (hn : numOk u) (hs : s.size = 48) :
    Fnc Tryz.prog 186 [pt kn, .int .i64 u, .string s] [kB kn k] (Ret (.tuple #[.string (layB u 1 (cry k u s)), .int .i64 0]) [kB kn k]) := by
  have h1 := crypt kn k u s hk hn hs
  have h2 := lay_ u 1 (cry k u s) hn (.inl rfl) (cry_size k u s hs)
  have hr := right_ok u hn
  refine fn_intro Tryz.func186 (by kernel_rfl) ?_
  repeat' ((conv => whnf); first
      | refine call_val hr ?_
      | refine call_gr h1 (.blk takeC .nil) ?_
      | refine call_val h2 ?_
      | (refine ifs (fun h => ?_) (fun h => ?_) <;> (try (exfalso; first | omega | with_reducible contradiction | with_reducible exact h rfl))))
  all_goals (conv => whnf)
  all_goals exact fin_all ⟨rfl, rfl⟩
theorem clay (u : Int) (s : ByteArray) (hn : numOk u) (hs : s.size = 48) :
    Fnc Tryz.prog 56 [.int .i64 u, .string s] [] (Ret (.tuple #[.string (layB u 2 s), .int .i64 0]) []) := by
  have h2 := lay_ u 2 s hn (.inr rfl) hs
  have hr := right_ok u hn
  refine fn_intro Tryz.func56 (by kernel_rfl) ?_
  repeat' ((conv => whnf); first
      | refine call_val hr ?_
      | refine call_val h2 ?_
      | (refine ifs (fun h => ?_) (fun h => ?_) <;> (try (exfalso; first | omega | with_reducible contradiction | with_reducible exact h rfl))))
  all_goals (conv => whnf)
  all_goals exact fin_nil ⟨rfl, rfl⟩
def byte8 (s : ByteArray) : Int := byteAt s 8
def z7 : ByteArray := str (List.replicate 7 0)
/-- A block that is one. -/
def kdOk (s : ByteArray) : Prop := s.size = 64 ∧ Be.getE (s.extract 0 8) = 0 ∧ numOk (Be.getN (s.extract 0 8)) ∧ (byte8 s = 1 ∨ byte8 s = 2) ∧ s.extract 9 16 = z7
open Classical in
noncomputable def kdN (s : ByteArray) : Int := if kdOk s then Be.getN (s.extract 0 8) else 0
open Classical in
noncomputable def kdK (s : ByteArray) : Int := if kdOk s then byte8 s else 0
open Classical in
noncomputable def kdE (s : ByteArray) : Int := if kdOk s then 0 else 6
theorem kd_no {s : ByteArray} (h : ¬ kdOk s) : Ending.returned (oneOrMany [.int .i64 0, .int .i64 0, .int .i64 6]) = .returned (.tuple #[.int .i64 (kdN s), .int .i64 (kdK s), .int .i64 (kdE s)]) := by
  unfold kdN kdK kdE; rw [if_neg h, if_neg h, if_neg h]; rfl
theorem kd_yes {s : ByteArray} (h : kdOk s) : Ending.returned (oneOrMany [.int .i64 (Be.getN (s.extract 0 8)), .int .i64 (byteAt s 8), .int .i64 0]) = .returned (.tuple #[.int .i64 (kdN s), .int .i64 (kdK s), .int .i64 (kdE s)]) := by
  unfold kdN kdK kdE; rw [if_pos h, if_pos h, if_pos h]; rfl
attribute [local irreducible] Be.getE Be.getN z7 byteAt
set_option maxHeartbeats 2000000 in
theorem kind_ (s : ByteArray) (hs : s.size ≤ 140737488355328) : Fnc Tryz.prog 139 [.string s] [] (Ret (.tuple #[.int .i64 (kdN s), .int .i64 (kdK s), .int .i64 (kdE s)]) []) := by
  have hg := Be.get (s.extract 0 8)
  have hz7 : str (List.replicate 7 0) = z7 := by unfold z7; rfl
  have hb := Be.byteAt_bd s 8
  have go : ∀ (b : Bool), (b = true ↔ numOk (Be.getN (s.extract 0 8))) → Fnc Tryz.prog 113 [.int .i64 (Be.getN (s.extract 0 8))] [] (Ret (.bool b) []) := fun b hb => by
    cases b
    · exact right_no _ (fun h => by have := hb.2 h; cases this)
    · exact right_ok _ (hb.1 rfl)
  by_cases hz : s.extract 9 16 = z7
  · by_cases hN : numOk (Be.getN (s.extract 0 8))
    · have hr := right_ok _ hN
      refine fn_intro Tryz.func139 (by kernel_rfl) ?_
      repeat' ((conv => whnf); first
          | refine call_val hg ?_
          | refine call_val hr ?_
          | refine draw_tree 5 (.take 0 (.take 1 (.take 2 (.take 3 (.only 4 (.take 5 (.take 6 (.take 7 (.take 8 (.take 9 (.take 10 (.take 11 (.take 12 (.take 13 (.take 14 (.take 15 (.take 16 (.take 17 (.only 18 (.only 19 (.take 20 (.take 21 .nil)))))))))))))))))))))) [] rfl (by kernel_rfl) ?_
          | refine kept_nil ?_
          | refine sv_eq (a := s.extract 0 8) rfl ?_
          | refine sv_eq (a := s.extract 9 16) rfl ?_
          | refine zv_eq (a := byteAt s 8) rfl ?_
          | refine need ⟨by omega, by omega⟩ ?_
          | refine mk_row rfl rfl rfl rfl rfl (by decide) (by decide) (by decide) (fun n => ?_)
          | (refine b2s_row (t := 5) (l := List.replicate 7 0) (junk := []) (by simp [u8s]) rfl rfl rfl (by simp) ?_; rw [hz7])
          | refine ift hz ?_
          | (refine wr (fun z hz => ?_); (try rw [Int.tdiv_eq_ediv_of_nonneg (by omega)] at hz); rw [w64 (by omega) (by omega)] at hz; subst hz)
          | (refine ifs (fun h => ?_) (fun h => ?_) <;> (try (exfalso; first | omega | with_reducible contradiction | with_reducible exact h rfl))))
      all_goals (conv => whnf)
      all_goals first
        | exact fin_pick (A' := []) .nil ⟨kd_yes ⟨by omega, by omega, hN, by unfold byte8; omega, hz⟩, rfl⟩
        | exact fin_pick (A' := []) .nil ⟨kd_no (fun ⟨x1, x2, x3, x4, x5⟩ => by unfold byte8 at x4; omega), rfl⟩
    · have hr := right_no _ hN
      refine fn_intro Tryz.func139 (by kernel_rfl) ?_
      repeat' ((conv => whnf); first
          | refine call_val hg ?_
          | refine call_val hr ?_
          | refine draw_tree 5 (.take 0 (.take 1 (.take 2 (.take 3 (.only 4 (.take 5 (.take 6 (.take 7 (.take 8 (.take 9 (.take 10 (.take 11 (.take 12 (.take 13 (.take 14 (.take 15 (.take 16 (.take 17 (.only 18 (.only 19 (.take 20 (.take 21 .nil)))))))))))))))))))))) [] rfl (by kernel_rfl) ?_
          | refine kept_nil ?_
          | refine sv_eq (a := s.extract 0 8) rfl ?_
          | refine zv_eq (a := byteAt s 8) rfl ?_
          | refine need ⟨by omega, by omega⟩ ?_
          | (refine wr (fun z hz => ?_); (try rw [Int.tdiv_eq_ediv_of_nonneg (by omega)] at hz); rw [w64 (by omega) (by omega)] at hz; subst hz)
          | (refine ifs (fun h => ?_) (fun h => ?_) <;> (try (exfalso; first | omega | with_reducible contradiction | with_reducible exact h rfl))))
      all_goals (conv => whnf)
      all_goals exact fin_pick (A' := []) .nil ⟨kd_no (fun ⟨x1, x2, x3, x4, x5⟩ => hN x3), rfl⟩
  · by_cases hN : numOk (Be.getN (s.extract 0 8))
    · have hr := right_ok _ hN
      refine fn_intro Tryz.func139 (by kernel_rfl) ?_
      repeat' ((conv => whnf); first
          | refine call_val hg ?_
          | refine call_val hr ?_
          | refine draw_tree 5 (.take 0 (.take 1 (.take 2 (.take 3 (.only 4 (.take 5 (.take 6 (.take 7 (.take 8 (.take 9 (.take 10 (.take 11 (.take 12 (.take 13 (.take 14 (.take 15 (.take 16 (.take 17 (.only 18 (.only 19 (.take 20 (.take 21 .nil)))))))))))))))))))))) [] rfl (by kernel_rfl) ?_
          | refine kept_nil ?_
          | refine sv_eq (a := s.extract 0 8) rfl ?_
          | refine sv_eq (a := s.extract 9 16) rfl ?_
          | refine zv_eq (a := byteAt s 8) rfl ?_
          | refine need ⟨by omega, by omega⟩ ?_
          | refine mk_row rfl rfl rfl rfl rfl (by decide) (by decide) (by decide) (fun n => ?_)
          | (refine b2s_row (t := 5) (l := List.replicate 7 0) (junk := []) (by simp [u8s]) rfl rfl rfl (by simp) ?_; rw [hz7])
          | refine iff' hz ?_
          | (refine wr (fun z hz => ?_); (try rw [Int.tdiv_eq_ediv_of_nonneg (by omega)] at hz); rw [w64 (by omega) (by omega)] at hz; subst hz)
          | (refine ifs (fun h => ?_) (fun h => ?_) <;> (try (exfalso; first | omega | with_reducible contradiction | with_reducible exact h rfl))))
      all_goals (conv => whnf)
      all_goals exact fin_pick (A' := []) .nil ⟨kd_no (fun ⟨x1, x2, x3, x4, x5⟩ => hz x5), rfl⟩
    · have hr := right_no _ hN
      refine fn_intro Tryz.func139 (by kernel_rfl) ?_
      repeat' ((conv => whnf); first
          | refine call_val hg ?_
          | refine call_val hr ?_
          | refine draw_tree 5 (.take 0 (.take 1 (.take 2 (.take 3 (.only 4 (.take 5 (.take 6 (.take 7 (.take 8 (.take 9 (.take 10 (.take 11 (.take 12 (.take 13 (.take 14 (.take 15 (.take 16 (.take 17 (.only 18 (.only 19 (.take 20 (.take 21 .nil)))))))))))))))))))))) [] rfl (by kernel_rfl) ?_
          | refine kept_nil ?_
          | refine sv_eq (a := s.extract 0 8) rfl ?_
          | refine zv_eq (a := byteAt s 8) rfl ?_
          | refine need ⟨by omega, by omega⟩ ?_
          | (refine wr (fun z hz => ?_); (try rw [Int.tdiv_eq_ediv_of_nonneg (by omega)] at hz); rw [w64 (by omega) (by omega)] at hz; subst hz)
          | (refine ifs (fun h => ?_) (fun h => ?_) <;> (try (exfalso; first | omega | with_reducible contradiction | with_reducible exact h rfl))))
      all_goals (conv => whnf)
      all_goals exact fin_pick (A' := []) .nil ⟨kd_no (fun ⟨x1, x2, x3, x4, x5⟩ => hN x3), rfl⟩
end Go.Proofs.YtkjamonkohpcnaaGreat.Ctr
/- Blocks: what was sealed is unsealed. -/
namespace Go.Proofs.YtkjamonkohpcnaaGreat.Ctr
open Go Ev Sha Aes
set_option linter.unusedVariables false
set_option linter.unusedSimpArgs false
set_option maxRecDepth 100000
theorem layB_L {u : Int} (hn : numOk u) (kd : Nat) (s : ByteArray) : layB u kd s = str (Be.bb 8 u.toNat ++ ([UInt8.ofNat kd, 0, 0, 0, 0, 0, 0, 0] ++ s.data.toList)) := by
  unfold layB headS
  rw [Be.putS_ok (putE8 hn), ← str_append, ← str_append, str_eta, ByteArray.append_assoc]
  rfl
theorem bb8 {m : Nat} (h : m ≤ 1099511627776) : Be.bb 8 m = 0 :: Be.bb 7 m := by
  show UInt8.ofNat (m / 256 ^ 7 % 256) :: Be.bb 7 m = _
  rw [Nat.div_eq_of_lt (by omega)]; rfl
theorem getE_8 {m : Nat} (h : m ≤ 1099511627776) : Be.getE (str (Be.bb 8 m)) = 0 := by
  rw [bb8 h]
  unfold Be.getE
  rw [Ev.str_size, List.length_cons, Be.bb_length, if_neg (by omega), if_neg (by omega), if_neg]
  rintro ⟨_, h2⟩
  have : byteAt (str (0 :: Be.bb 7 m)) 0 = 0 := rfl
  omega
theorem getN_8 {m : Nat} (h : m ≤ 1099511627776) : Be.getN (str (Be.bb 8 m)) = (m : Int) := by
  unfold Be.getN
  rw [if_pos (getE_8 h), Ev.str_data, Be.bval_bb, Nat.mod_eq_of_lt (by omega)]
theorem layB_ok {u : Int} (hn : numOk u) {kd : Nat} (hk : kd = 1 ∨ kd = 2) {s : ByteArray} (hs : s.size = 48) :
    kdOk (layB u kd s) ∧ Be.getN ((layB u kd s).extract 0 8) = u ∧ byte8 (layB u kd s) = kd ∧ (layB u kd s).extract 16 64 = s := by
  have hm : u.toNat ≤ 1099511627776 := by have := hn.2; omega
  have hu : ((u.toNat : Nat) : Int) = u := by have := hn.1; omega
  have hl : s.data.toList.length = 48 := hs
  have hb := Be.bb_length 8 u.toNat
  have e0 : (layB u kd s).extract 0 8 = str (Be.bb 8 u.toNat) := by
    rw [layB_L hn, Geom.ext_str, List.take_left' hb, List.drop_zero]
  have e1 : (layB u kd s).extract 9 16 = z7 := by
    rw [layB_L hn, Geom.ext_str, List.take_append, hb, List.take_of_length_le (by rw [hb]; omega)]
    rw [List.drop_append, hb, List.drop_of_length_le (by rw [hb]; omega)]
    rw [List.take_append_of_le_length (by show 8 ≤ 8; omega)]
    rfl
  have e2 : (layB u kd s).extract 16 64 = s := by
    rw [layB_L hn, Geom.ext_str, List.take_of_length_le (by simp [hb, hl])]
    rw [List.drop_append, hb, List.drop_of_length_le (by rw [hb]; omega), List.drop_append]
    simp
    exact str_eta s
  have e3 : byte8 (layB u kd s) = kd := by
    rw [layB_L hn]
    unfold byte8 byteAt
    rw [Ev.str_data, List.getElem?_append_right (by rw [hb]; omega), hb]
    rcases hk with rfl | rfl <;> rfl
  refine ⟨⟨layB_size hn kd hs, by rw [e0]; exact getE_8 hm, by rw [e0, getN_8 hm, hu]; exact hn, ?_, e1⟩, by rw [e0, getN_8 hm, hu], e3, e2⟩
  rw [e3]; omega
/-- What a block's data are. -/
def bodyS (k : Nat → Int) (s : ByteArray) : ByteArray := if byte8 s = 2 then s.extract 16 64 else cry k (Be.getN (s.extract 0 8)) (s.extract 16 64)
theorem body_seal (k : Nat → Int) {u : Int} (hn : numOk u) {s : ByteArray} (hs : s.size = 48) : bodyS k (layB u 1 (cry k u s)) = s := by
  obtain ⟨h1, h2, h3, h4⟩ := layB_ok hn (.inl rfl) (cry_size k u s hs)
  unfold bodyS
  rw [h3, if_neg (by decide), h2, h4, cry_back k u s hs]
theorem body_plain (k : Nat → Int) {u : Int} (hn : numOk u) {s : ByteArray} (hs : s.size = 48) : bodyS k (layB u 2 s) = s := by
  obtain ⟨h1, h2, h3, h4⟩ := layB_ok hn (.inr rfl) hs
  unfold bodyS
  rw [h3, if_pos (by rfl), h4]
attribute [local irreducible] Be.getE Be.getN z7 byteAt cry layB
theorem unseal_ (kn : Nat) (k : Nat → Int) (s : ByteArray) (hk : ∀ i, by8 (k i)) (h : kdOk s) : Fnc Tryz.prog 80 [pt kn, .string s] [kB kn k] (Ret (.tuple #[.string (bodyS k s), .int .i64 0]) [kB kn k]) := by
  have hsz := h.1
  have hkd := kind_ s (by omega)
  rw [show kdN s = Be.getN (s.extract 0 8) by unfold kdN; rw [if_pos h], show kdK s = byte8 s by unfold kdK; rw [if_pos h], show kdE s = 0 by unfold kdE; rw [if_pos h]] at hkd
  have h48 : (s.extract 16 64).size = 48 := by rw [ByteArray.size_extract]; omega
  have hc := crypt kn k (Be.getN (s.extract 0 8)) (s.extract 16 64) hk h.2.2.1 h48
  by_cases h2 : byte8 s = 2
  · rw [show bodyS k s = s.extract 16 64 by unfold bodyS; rw [if_pos h2]]
    rw [h2] at hkd
    refine fn_intro Tryz.func80 (by kernel_rfl) ?_
    repeat' ((conv => whnf); first
        | refine call_val hkd ?_
        | refine need ⟨by omega, by omega, by omega⟩ ?_
        | refine sv_eq (a := s.extract 16 64) (by rw [show Int.toNat (s.size : Int) = 64 by omega]; rfl) ?_
        | (refine ifs (fun h => ?_) (fun h => ?_) <;> (try (exfalso; first | omega | with_reducible contradiction | with_reducible exact h rfl))))
    all_goals (conv => whnf)
    all_goals exact fin_all ⟨rfl, rfl⟩
  · rw [show bodyS k s = cry k (Be.getN (s.extract 0 8)) (s.extract 16 64) by unfold bodyS; rw [if_neg h2]]
    generalize byte8 s = b8 at h2 hkd
    refine fn_intro Tryz.func80 (by kernel_rfl) ?_
    repeat' ((conv => whnf); first
        | refine call_val hkd ?_
        | refine need ⟨by omega, by omega, by omega⟩ ?_
        | refine sv_eq (a := s.extract 16 64) (by rw [show Int.toNat (s.size : Int) = 64 by omega]; rfl) ?_
        | refine call_gr hc (.blk takeC .nil) ?_
        | (refine ifs (fun h => ?_) (fun h => ?_) <;> (try (exfalso; first | omega | with_reducible contradiction | with_reducible exact h rfl))))
    all_goals (conv => whnf)
    all_goals exact fin_all ⟨rfl, rfl⟩
end Go.Proofs.YtkjamonkohpcnaaGreat.Ctr
