/- Texts of this proof, merged. -/
import Derived.Test.YtkjamonkohpcnaaGreatAk24
import Derived.Test.YtkjamonkohpcnaaGreatAk21
import Derived.Test.YtkjamonkohpcnaaGreatAk13
import Derived.Test.YtkjamonkohpcnaaGreatAk14
import Derived.Test.YtkjamonkohpcnaaGreatAk5
set_option linter.unusedVariables false
set_option linter.unusedSimpArgs false
set_option linter.unusedSectionVars false
set_option maxRecDepth 100000
set_option maxHeartbeats 16000000
namespace Go.Proofs.YtkjamonkohpcnaaGreat
namespace Cmt
open Go Ev Sha Aes Orc Node Rec Chn Jrn Cau Sto Srt Stg Wld Bgn Ivs Ctr Aut
open Rig (Fnc_takeR RigP Rg rgM readR writeR flushR setRegR z64 app_of tick comes mayE RigA)
open Tree (TreP TreA Tre treM TI Same getS setS updB ShJ getT putT getT_ok putT_ok)
theorem reg_tk (r : RigP) : (Rig.tk r).reg = r.reg := by
 show (Rig.tk1 r).reg = r.reg
 unfold Rig.tk1
 split
 · exact reg_sd _ _ _
 · rfl
theorem reg_tick (r : RigP) : (tick r).1.reg = r.reg := by
 unfold tick
 split
 · rfl
 · split
   · exact reg_tk r
   · split <;> exact reg_tk r
theorem reg_readR (r : RigP) (d i : Int) : (readR r d i).1.reg = r.reg := by
 unfold readR
 split
 · rfl
 · split <;> exact reg_tick r
theorem reg_readT (sf : List ByteArray → ByteArray → List ByteArray × Dg) (r : RigP) (ts : List ByteArray) (d i : Int) (w : Dg) : (Tree.readT sf r ts d i w).1.reg = r.reg := by
 unfold Tree.readT
 split
 · exact reg_readR r d i
 · split <;> exact reg_readR r d i
theorem reg_nodeT (r : RigP) (ts : List ByteArray) (t : TreP) (n : Nat) (w : Dg) : (Tree.nodeT r ts t n w).r.reg = r.reg := by
 unfold Tree.nodeT
 split
 · rfl
 · split <;> exact reg_readT _ _ _ _ _ _
theorem reg_dn (leaf : Nat) (p : Tree.DnP) : ∀ k, (Tree.dn leaf p k).r.reg = p.r.reg
 | 0 => rfl
 | k + 1 => by
   show (if (Tree.dn leaf p k).e ≠ 0 then Tree.dn leaf p k else Tree.dnS leaf (5 - k) (Tree.dn leaf p k)).r.reg = _
   split
   · exact reg_dn leaf p k
   · exact (reg_nodeT _ _ _ _ _).trans (reg_dn leaf p k)
theorem reg_downT (r : RigP) (ts : List ByteArray) (t : TreP) (leaf : Nat) : (Tree.downT r ts t leaf).r.reg = r.reg := reg_dn leaf _ 6
theorem reg_getX (p : Tree.DnP) (leaf : Nat) : (Tree.getX p leaf).1.reg = p.r.reg := by
 unfold Tree.getX
 split
 · rfl
 · exact reg_readT _ _ _ _ _ _
theorem reg_getT (r : RigP) (ts : List ByteArray) (t : TreP) (leaf : Nat) : (getT r ts t leaf).r.reg = r.reg := by
 unfold getT
 split
 · exact reg_downT r ts t leaf
 · split <;> exact (reg_getX _ _).trans (reg_downT r ts t leaf)
theorem reg_putT (r : RigP) (ts : List ByteArray) (t : TreP) (leaf : Nat) (b : ByteArray) : (putT r ts t leaf b).r.reg = r.reg := by
 unfold putT
 split <;> exact reg_downT r ts t leaf
theorem reg_getO (r : RigP) (ts : List ByteArray) (V : StoV) (d leaf : Int) : (getO r ts V d leaf).r.reg = r.reg := by
 unfold getO getA
 split
 · rfl
 · dsimp only
   split
   · exact reg_getT _ _ _ _
   · rfl
theorem reg_putO (r : RigP) (ts : List ByteArray) (V : StoV) (d leaf : Int) (b : ByteArray) : (putO r ts V d leaf b).r.reg = r.reg := by
 unfold putO putA
 split
 · rfl
 · split
   · rfl
   · dsimp only
     split
     · split
       · exact reg_putT _ _ _ _ _
       · rfl
     · rfl
structure TC (root : Dg) (C : Nat → ByteArray) (f : Nat → ByteArray) : Prop where
 sz : ∀ n, n < 63 → (C (161 + n)).size = 64
 fsz : ∀ n, n < 64 → (f n).size = 64
 lf : ∀ n, n < 64 → C (224 + n) = f n
 root : root = D (p1 (C (161 + 0)))
 kid : ∀ n s, n < 63 → s ≤ 1 → dl (splitD (C (161 + n)) s) = dl (Tree.dg (fun n => C (161 + n)) f (2 * n + 1 + s))
theorem tc_of {r : RigP} {t : TreP} {F f : Nat → ByteArray} (h : TI r t F f) (k : SI r t F) {C : Nat → ByteArray} (hn : ∀ j, 161 ≤ j → j < 288 → nw_ r t.d j = C j) : TC t.root (ovl t.sheet C) f := by
 have e : ∀ n, n < 63 → ovl t.sheet C (161 + n) = F n := fun n hm => by
  unfold ovl
  cases g : getS t.sheet ((161 + n : Nat) : Int) with
  | some s => exact k.nd n s hm g
  | none => exact (hn (161 + n) (by omega) (by omega)).symm.trans (k.dv n hm g)
 have eg : ∀ m, m < 127 → Tree.dg (fun n => ovl t.sheet C (161 + n)) f m = Tree.dg F f m := fun m hm => by
  unfold Tree.dg
  by_cases h2 : m < 63
  · rw [if_pos h2, if_pos h2]; dsimp only; rw [e m h2]
  · rw [if_neg h2, if_neg h2]
 refine ⟨fun n hm => by rw [e n hm]; exact h.sz n hm, h.fsz, fun n hm => ?_, ?_, fun n s hm hs => ?_⟩
 · unfold ovl
   cases g : getS t.sheet ((224 + n : Nat) : Int) with
   | some s => exact h.sheet n s hm g
   | none => exact (hn (224 + n) (by omega) (by omega)).symm.trans (h.leaf n hm g)
 · rw [e 0 (by omega)]; exact h.root
 · rw [e n hm, eg _ (by omega)]; exact h.kid n s hm hs
theorem ti_of {r : RigP} {d : Int} (hd : d = 0 ∨ d = 1) {root : Dg} {C f : Nat → ByteArray} (h : TC root C f) (hn : ∀ j, 161 ≤ j → j < 288 → nw_ r d j = C j) : TI r ⟨d, root, [], []⟩ (fun n => C (161 + n)) f ∧ SI r ⟨d, root, [], []⟩ (fun n => C (161 + n)) :=
 ⟨⟨hd, h.sz, h.fsz, h.root, h.kid, fun n s _ hg => (by cases hg), fun n hm _ => hn (161 + n) (by omega) (by omega), fun n s _ hg => (by cases hg), fun n hm _ => (hn (224 + n) (by omega) (by omega)).trans (h.lf n hm)⟩,
   ⟨⟨List.nodup_nil, fun p hp => by cases hp⟩, fun n s _ hg => (by cases hg), fun n hm _ => hn (161 + n) (by omega) (by omega)⟩⟩
open Rig (crR)
theorem fine_cr (r : RigP) : Fine (crR r) := ⟨rfl, rfl, rfl, rfl⟩
theorem cr_dev (r : RigP) (d : Int) (j : Nat) : (crR r).dev d j = Rig.cr1 ((r.dev d) j) := by
 unfold RigP.dev crR
 by_cases h : d = 0
 · rw [if_pos h, if_pos h]; rfl
 · rw [if_neg h, if_neg h]; rfl
theorem nw_cr (r : RigP) (d : Int) (j : Nat) : (nw_ (crR r) d j = nw_ r d j ∨ nw_ (crR r) d j = sf_ r d j) ∧ sf_ (crR r) d j = nw_ (crR r) d j := by
 unfold nw_ sf_
 rw [cr_dev]
 refine ⟨?_, rfl⟩
 show Rig.crs _ = _ ∨ Rig.crs _ = _
 unfold Rig.crs
 split
 · exact .inr rfl
 · exact .inl rfl
theorem DR.cr {r : RigP} {J : JrP} {d : Nat} {super : ByteArray} {R : List Rc} {C : Nat → ByteArray} (h : DR r J d super R C) : DR (crR r) J d super R C := by
 refine ⟨h.eq, h.hd, h.ok, fun i hi => ?_, fun j h1 h2 => ?_⟩
 · have k := nw_cr r d (1 + 80 * J.area + i)
   have g := h.jb i hi
   have : nw_ (crR r) d (1 + 80 * J.area + i) = ((blks R)[i]?).getD ByteArray.empty := by
    rcases k.1 with e | e
    · exact e.trans g.1
    · exact e.trans g.2
   exact ⟨this, k.2.trans this⟩
 · have k := nw_cr r d j
   have g := h.hm j h1 h2
   have : rpl R (nw_ (crR r) d) j = C j := by
    rcases k.1 with e | e
    · rw [rpl_pt R e]; exact g.1
    · rw [rpl_pt R (C' := sf_ r d) e]; exact g.2
   exact ⟨this, by rw [rpl_pt R (C' := nw_ (crR r) d) k.2]; exact this⟩
theorem SP.cr {r : RigP} {super : ByteArray} (h : SP r super) : SP (crR r) super := by
 have k := nw_cr r 0 0
 have : nw_ (crR r) 0 0 = super := by
  rcases k.1 with e | e
  · exact e.trans h.n
  · exact e.trans h.s
 have k1 := nw_cr r 1 0
 have h1 : (nw_ (crR r) 1 0).size = 64 := by
  rcases k1.1 with e | e
  · rw [e]; exact h.n1
  · rw [e]; exact h.s1
 exact ⟨this, k.2.trans this, h1, by rw [k1.2]; exact h1⟩
theorem DK.cr {super : ByteArray} {r : RigP} {J0 J1 : JrP} {y : RgV} {C0 C1 : Nat → ByteArray} (h : DK super r J0 J1 y C0 C1) : DK super (crR r) J0 J1 y C0 C1 := by
 obtain ⟨⟨R0, d0⟩, ⟨R1, d1⟩, sp, rg⟩ := h
 exact ⟨⟨R0, d0.cr⟩, ⟨R1, d1.cr⟩, sp.cr, rg⟩
end Cmt
namespace Stg
open Go Ev Sha Aes Orc Node Rec Chn Jrn Cau Sto Srt Wld Cmt
open Rig (Fnc_takeR RigP Rg rgM readR writeR flushR setRegR z64 app_of tick comes write_ mayE RigA)
def tks (r : RigP) : Nat → RigP
 | 0 => r
 | k + 1 => ticked (tks r k)
theorem tks_f {r : RigP} (h : Fine r) : ∀ k, Fine (tks r k)
 | 0 => h
 | k + 1 => (tks_f h k).ticked
theorem tks_s (r : RigP) : ∀ k, Tree.Same r (tks r k)
 | 0 => Tree.Same.refl r
 | k + 1 => (tks_s r k).trans (Tree.same_tick _)
abbrev cJp (c jn : Nat) : Blk := ⟨c, .cells [pt jn] 108⟩
attribute [local irreducible] dgV D jC wrF rcC stC regC RgV.lay rgM readR
theorem jread1 (a : RigA) (r : RigP) (jn on c2 c6 k : Nat) (x : JrP) (S : Own) (l : List ByteArray) (hf : Fine r) (hd : x.d ≤ 1) (ha : x.area ≤ 1) (hk : k < 80) (hS : S.ok 1 k (strV l)) :
 Fnc Tryz.prog 264 [.int .i64 k, pt c2, pt c6] (rgM ⟨a, r⟩ ++ (jB jn a.rn on x :: cJp c2 jn :: ⟨c6, .cells [S.val k] 233⟩ :: S.blk 9 (strV l)))
  (fun e A => ∃ S' : Own, S'.ok 1 (k + 1) (strV (l ++ [nw_ r x.d (1 + 80 * x.area + k)])) ∧ e = .returned (.int .i64 0) ∧ A = rgM ⟨a, ticked r⟩ ++ (jB jn a.rn on x :: cJp c2 jn :: ⟨c6, .cells [S'.val (k + 1)] 233⟩ :: S'.blk 9 (strV (l ++ [nw_ r x.d (1 + 80 * x.area + k)])))) := by
 have hb := jblock x.super x.d x.area k ha hk
 have hr := Rig.read_ ⟨a, r⟩ x.d (1 + 80 * x.area + k : Nat)
 have he := Tree.fine_read (d := (x.d : Int)) (i := 1 + 80 * x.area + k) hf (by omega) (by omega)
 rw [he] at hr
 have hr : Fnc Tryz.prog 193 [pt a.rn, .int .i64 x.d, .int .i64 (1 + 80 * x.area + k : Nat)] (rgM ⟨a, r⟩) (Ret (.tuple #[.string (nw_ r x.d (1 + 80 * x.area + k)), .int .i64 0]) (rgM ⟨a, ticked r⟩)) := hr
 have hev : strV (l ++ [nw_ r x.d (1 + 80 * x.area + k)]) = strV l ++ [.string (nw_ r x.d (1 + 80 * x.area + k))] := strV_snoc _ _
 refine fn_intro Tryz.func264 (by kernel_rfl) ?_
 repeat' ((conv => whnf); first
  | refine draw_any 1 [(13, true), (0, true), (1, true), (2, true), (3, true), (4, true), (5, true), (6, true), (7, true), (8, true), (9, false), (10, true), (11, true), (12, false), (14, false), (15, false), (16, true), (17, true), (18, true), (19, true), (20, true)] [⟨jn, _⟩, ⟨c2, _⟩] rfl (by kernel_rfl) (kept_of (.cons takeC (.cons takeC .nil)) ?_) | refine kept_of (.cons takeC (.cons takeC .nil)) ?_ | refine fld1 ?_ | refine fld1_row jC_0 ?_ | refine fld1_row jC_d ?_ | refine ldN_row (n := jn) _ jC_w rfl ?_ | refine call_val hb ?_ | refine call_gr hr (.one takeG) ?_ | (refine app_cells (S := S) (n := k) (m := 1) (e := 9) (xs := strV l) (news := [.string (nw_ r x.d (1 + 80 * x.area + k))]) rfl rfl rfl rfl rfl hS rfl (by intro u hu; simp only [List.mem_singleton] at hu; subst hu; rfl) (by show (k + 1) * 16 ≤ _; omega) (by omega) cells_at (fun S' hS' => ?_); rw [← hev] at hS' ⊢) | refine ld1_lit ?_ | refine nw (fun n => ?_) | refine bld ?_ | refine st_lit rfl ?_ | refine need (by first | rfl | omega) ?_)
 all_goals (conv => whnf)
 all_goals exact fin_g (A := rgM ⟨a, ticked r⟩ ++ (jB jn a.rn on x :: cJp c2 jn :: ⟨c6, _⟩ :: S'.blk 9 _)) (.grp takeG (.blk takeC (.blk takeC (.blk takeC (.one takeE))))) ⟨S', hS', rfl, rfl⟩
def nws (r : RigP) (d : Int) (at_ : Nat) (n : Nat) : List ByteArray := (List.range n).map fun k => nw_ r d (at_ + k)
theorem nws_s (r : RigP) (d : Int) (at_ n : Nat) : nws r d at_ (n + 1) = nws r d at_ n ++ [nw_ r d (at_ + n)] := by unfold nws; rw [List.range_succ, List.map_append]; rfl
theorem nws_len (r : RigP) (d : Int) (at_ n : Nat) : (nws r d at_ n).length = n := by unfold nws; simp
theorem nw_tks (r : RigP) (d : Int) (j k : Nat) : nw_ (tks r k) d j = nw_ r d j := by unfold nw_; rw [(tks_s r k).dev]
theorem jread (a : RigA) (r : RigP) (jn on nn : Nat) (x : JrP) (hf : Fine r) (hd : x.d ≤ 1) (ha : x.area ≤ 1) (hn : nn ≤ 80) (h1 : 1 ≤ nn) :
 Fnc Tryz.prog 236 [pt jn, .int .i64 nn] (rgM ⟨a, r⟩ ++ [jB jn a.rn on x])
  (fun e A => ∃ (g c : Nat) (jk : List Value), nn ≤ c ∧ e = .returned (.tuple #[.slice (some ⟨g, 0, none⟩) nn c, .int .i64 0]) ∧ A = rgM ⟨a, tks r nn⟩ ++ [jB jn a.rn on x, ⟨g, .row (strV (nws r x.d (1 + 80 * x.area) nn) ++ jk) 9⟩]) := by
 have hb := fun (c2 c6 k : Nat) (S : Own) (hk : k < 80) (hS : S.ok 1 k (strV (nws r x.d (1 + 80 * x.area) k))) => jread1 a (tks r k) jn on c2 c6 k x S (nws r x.d (1 + 80 * x.area) k) (tks_f hf k) hd ha hk hS
 simp only [nw_tks, ← nws_s] at hb
 refine fn_intro Tryz.func236 (by kernel_rfl) ?_
 repeat' ((conv => whnf); first
  | refine nw (fun n => ?_))
 all_goals (conv => whnf)
 rename_i c2
 refine loop_rule [12] (fun vs M m => ∃ (k : Nat) (S : Own), vs = [.int .i64 k] ∧ k ≤ nn ∧ m = nn - k ∧ S.ok 1 k (strV (nws r x.d (1 + 80 * x.area) k)) ∧
  M = rgM ⟨a, tks r k⟩ ++ (jB jn a.rn on x :: cJp c2 jn :: ⟨n, .cells [S.val k] 233⟩ :: S.blk 9 (strV (nws r x.d (1 + 80 * x.area) k)))) rfl ?_ ?_
 · exact fin_g (A := rgM ⟨a, r⟩ ++ [jB jn a.rn on x, cJp c2 jn, ⟨n, _⟩]) (.grp takeG (.blk takeC (.blk takeC (.blk takeC .nil)))) ⟨_, 0, .nil, rfl, by omega, rfl, ⟨rfl, rfl⟩, rfl⟩
 rintro vs junk M' m ⟨k, S, rfl, hk, rfl, hS, rfl⟩
 by_cases hk6 : k < nn
 · have hc := hb c2 n k S (by omega) hS
   repeat' ((conv => whnf); first
    | (refine call_g hc (.grp takeG (.blk takeC (.blk takeC (.blk takeC (.one takeE))))) (fun e A' hq => ?_); obtain ⟨S', q1, q2, q3⟩ := hq; subst q2; subst q3) | (refine wr (fun z hz => ?_); (try rw [Int.tdiv_eq_ediv_of_nonneg (by omega)] at hz); rw [w64 (by omega) (by omega)] at hz; subst hz) | (refine ifs (fun h => ?_) (fun h => ?_) <;> try (exfalso; first | omega | with_reducible first | contradiction | exact h rfl)))
   all_goals (conv => whnf)
   all_goals exact ⟨rfl, fin_g (A := rgM ⟨a, tks r (k + 1)⟩ ++ (jB jn a.rn on x :: cJp c2 jn :: ⟨n, _⟩ :: S'.blk 9 (strV (nws r x.d (1 + 80 * x.area) (k + 1))))) (.grp takeG (.blk takeC (.blk takeC (.blk takeC (.one takeE))))) ⟨nn - (k + 1), by omega, k + 1, S', rfl, by omega, rfl, q1, rfl⟩⟩
 · obtain rfl : k = nn := by omega
   cases S with
   | nil => exact absurd hS.2 (by omega)
   | at_ g c jk =>
     repeat' ((conv => whnf); first
      | refine ld1_lit ?_ | (refine ifs (fun h => ?_) (fun h => ?_) <;> try (exfalso; first | omega | with_reducible first | contradiction | exact h rfl)))
     all_goals (conv => whnf)
     all_goals exact fin_g (A := rgM ⟨a, tks r k⟩ ++ (jB jn a.rn on x :: (Own.at_ g c jk).blk 9 (strV (nws r x.d (1 + 80 * x.area) k)))) (.grp takeG (.blk takeC (.one takeE))) ⟨g, c, jk, hS.2.1, rfl, rfl⟩
end Stg
namespace Stg
open Go Ev Sha Aes Orc Node Rec Chn Jrn Cau Sto Srt Wld Cmt
open Rig (Fnc_takeR RigP Rg rgM readR writeR flushR setRegR z64 app_of tick comes write_ mayE RigA)
structure LdI (r : RigP) (super : ByteArray) (d area used : Nat) (R : List Rc) (J : JrP) : Prop where
 d1 : d ≤ 1
 ar1 : area ≤ 1
 s64 : super.size = 64
 eq : J = R.foldl jadd_ (jr0 super d area (D (startS super d area)))
 hd : ∃ b t, R = b :: t ∧ b.l = [] ∧ sqs b.seq t
 ok : ∀ x ∈ R, chkE x.seq x.l = 0
 us : used = (blks R).length
 u1 : 1 ≤ used
 u80 : used ≤ 80
 bl : nws r d (1 + 80 * area) used = blks R
noncomputable def jr_ (super : ByteArray) (d area : Nat) (R1 : List Rc) : JrP := R1.foldl jadd_ (jr0 super d area (D (startS super d area)))
theorem jr_s (super : ByteArray) (d area : Nat) (R1 : List Rc) (x : Rc) : jr_ super d area (R1 ++ [x]) = jadd_ (jr_ super d area R1) x := by unfold jr_; rw [List.foldl_append]; rfl
abbrev wB (w : Nat) (super : ByteArray) (d area : Nat) : Blk := ⟨w, .cells [.string super, .int .i64 d, .int .i64 area] 250⟩
abbrev anB (n : Nat) (A : Dg) : Blk := ⟨n, .row (dgV A) 30⟩
def LdQ (a : RigA) (r : RigP) (o : Orc) (used : Nat) (R : List Rc) (J : JrP) : Ending → List Blk → Prop := fun e M =>
 ∃ (jn : Nat) (L : List RS) (O : Own) (o' : Orc), L.map (·.1) = R ∧ (∀ y ∈ L, OkR y) ∧ O.ok 34 L.length (rowR L) ∧ o'.on = o.on ∧ o'.ts.length ≤ o.ts.length + 1 + R.length ∧ e = .returned (.tuple #[pt jn, O.val L.length, .int .i64 0]) ∧
   M = rgM ⟨a, tks r used⟩ ++ (orcM o' ++ (jB jn a.rn o.on J :: (O.blk 191 (rowR L) ++ putsM L)))
theorem st_j0 {P : Program} {M : List Blk} {n rn on : Nat} {T : TypeId} {f : Blk → List Blk} {k : List Blk → Prop} {super : ByteArray} {d area : Nat} {b : Dg} [z : Zip M n (.row (jC rn on (jr0 super d area zD)) T) f] (hk : k (f ⟨n, .row (jC rn on (jr0 super d area b)) T⟩)) : StN P M n 39 (dgV b) k := st_jn hk
theorem own_at (g c : Nat) (jk xs : List Value) (e : TypeId) : (Own.at_ g c jk).blk e xs = [⟨g, .row (xs ++ jk) e⟩] := rfl
theorem rv_0 (y : RS) : (rvC y)[0]? = some (.int .i64 y.1.seq) := rcP_0
theorem rv_p (y : RS) : (rvC y)[33]? = some (y.2.val y.1.l.length) := rcP_p
theorem bs_64 {x : Rc} (h : chkE x.seq x.l = 0) : ∀ s ∈ x.bs, s.size = 64 := recLs_64 h
theorem rl_bs {x : Rc} (h : chkE x.seq x.l = 0) : rlen x.l.length = x.bs.length := by
 have h1 := recLs_len x.seq x.root x.l
 have h2 := (chkE_0 h).1
 have h3 : x.bs.length = (recLs x.seq x.root x.l).length := rfl
 unfold rlen; rw [if_neg (by omega), h3, h1]
theorem jz_e (rn on : Nat) (super : ByteArray) (d area : Nat) : jC rn on (jr0 super d area zD) = [pt rn, pt on, .string super, .int .i64 d, .int .i64 area, .int .i64 0, .int .i64 0] ++ List.replicate 64 (Value.int .u8 0) := rfl
theorem rowR_get {L : List RS} {i k : Nat} (hi : i < L.length) (hk : k < 34) (junk : List Value) : (rowR L ++ junk)[i * 34 + k]? = (rvC L[i])[k]? := by
 rw [List.getElem?_append_left (by rw [rowR_len]; omega)]
 exact flat_get (rowR_lens L) (by rw [List.getElem?_map, List.getElem?_eq_getElem hi]; rfl) hk
theorem rowR_at {L : List RS} {i : Nat} (hi : i < L.length) (junk : List Value) : ((rowR L ++ junk).drop (i * 34)).take (rvC L[i]).length = rvC L[i] := by
 have hl := rvC_len L[i]
 apply List.ext_getElem?
 intro k
 rw [hl]
 by_cases hk : k < 34
 · rw [List.getElem?_take, if_pos hk, List.getElem?_drop, rowR_get hi hk]
 · rw [List.getElem?_take, if_neg hk, List.getElem?_eq_none (by rw [hl]; omega)]
theorem sqs_at : ∀ (t : List Rc) (J : JrP), sqs J.seq t → ∀ k (h : k < t.length), t[k].seq = ((t.take k).foldl jadd_ J).seq + 1
 | [], _, _, k, h => absurd h (Nat.not_lt_zero _)
 | x :: t, J, hs, 0, h => hs.1
 | x :: t, J, hs, k + 1, h => sqs_at t (jadd_ J x) hs.2 k (by simpa using h)
theorem jr_used (super : ByteArray) (d area : Nat) (R1 : List Rc) : (jr_ super d area R1).used = (blks R1).length := by
 unfold jr_
 rw [fold_used]; exact Nat.zero_add _
theorem seq_at {R : List Rc} {super : ByteArray} {d area : Nat} (h : ∃ b t, R = b :: t ∧ b.l = [] ∧ sqs b.seq t) {k : Nat} (hk : k < R.length) (h0 : 0 < k) : R[k].seq = (jr_ super d area (R.take k)).seq + 1 := by
 obtain ⟨b, t, rfl, _, h2⟩ := h
 obtain ⟨j, rfl⟩ : ∃ j, k = j + 1 := ⟨k - 1, by omega⟩
 exact sqs_at t (jadd_ (jr0 super d area (D (startS super d area))) b) h2 j (by simpa using hk)
attribute [local irreducible] dgV D jC wrF rcC stC regC RgV.lay rgM readR rcP convert Builtin.copy_ Builtin.append_ Instr.makeSlice flatV recN recLs rowR putsM blks
theorem jload (a : RigA) (r : RigP) (o : Orc) (super : ByteArray) (d area used : Nat) (R : List Rc) (J : JrP) (hf : Fine r) (hI : LdI r super d area used R J) (hb : o.ts.length ≤ 1099511627000) :
 Fnc Tryz.prog 195 [pt a.rn, pt o.on, .agg #[.string super, .int .i64 d, .int .i64 area], .int .i64 used, .agg (dgV J.anchor).toArray] (rgM ⟨a, r⟩ ++ orcM o) (LdQ a r o used R J) := by
 have u1 := hI.u1
 have u80 := hI.u80
 have hall := fun (g c : Nat) (jk : List Value) (hc : used ≤ c) => rall g 0 c (strV (nws r d (1 + 80 * area) used) ++ jk) R hI.ok (by rw [List.drop_zero, hI.bl, List.take_append_of_le_length (by rw [strV_len]; exact Nat.le_refl _), List.take_of_length_le (by rw [strV_len]; exact Nat.le_refl _)]) (by rw [← hI.us]; exact hc) (by rw [← hI.us]; omega)
 rw [← hI.us] at hall
 have hst := start_ o super d area hI.d1 hI.ar1 hI.s64 (by omega)
 have hrd := fun jn => jread a r jn o.on used (jr0 super d area (D (startS super d area))) hf hI.d1 hI.ar1 hI.u80 hI.u1
 refine fn_intro Tryz.func195 (by kernel_rfl) ?_
 repeat' ((conv => whnf); first
  | refine force_of ?_ | refine nw_dg (fun an => ?_) | refine nw (fun n => ?_))
 all_goals (conv => whnf)
 refine Tree.scope_rule ?_
 repeat' ((conv => whnf); first
  | refine force_of ?_ | refine nw_row (cs' := jC a.rn o.on (jr0 super d area zD)) (jz_e _ _ _ _ _) (fun jn => ?_) | refine nw_z (fun zn => ?_) | refine call_go hst (.one takeG) (fun o1 a1 a2 => ?_) | (refine need ?_ ?_; exact dgV_len _) | refine st_dg ?_ | refine ldN_dg rfl ?_ | (refine bld_cons (vs := [_]) rfl rfl rfl (Nat.le_of_ble_eq_true rfl) rfl ?_; refine bld_cons (vs := [_]) rfl rfl rfl (Nat.le_of_ble_eq_true rfl) rfl ?_; refine bld_cons (vs := [_, _, _]) rfl rfl rfl (Nat.le_of_ble_eq_true rfl) rfl ?_; refine bld_nil ?_) | refine st_j0 ?_ | (refine call_g (hrd _) (.grp takeG (.blk takeC .nil)) (fun e A' hq => ?_); obtain ⟨g, c, jk, q1, q2, q3⟩ := hq; subst q2; subst q3) | (refine call_g (hall g c jk q1) (.blk takeC .nil) (fun e A' hq => ?_); obtain ⟨L, O, p1, p2, p3, p4, p5⟩ := hq; subst p4; subst p5) | refine ld1_lit ?_ | refine ldN_lit ?_ | (refine ifs (fun h => ?_) (fun h => ?_) <;> try (exfalso; first | omega | with_reducible first | contradiction | exact h rfl)))
 all_goals (conv => whnf)
 have hRL : L.length = R.length := by rw [← p1, List.length_map]
 have hge := blks_ge R
 obtain ⟨b0, t0, eR, eb, es⟩ := hI.hd
 cases O with
 | nil => exact absurd p3.2 (by rw [hRL, eR]; simp)
 | at_ og oc ojk =>
 have hL0 : 0 < L.length := by rw [hRL, eR]; simp
 have hg0 : (rowR L ++ ojk)[0 * 34 + 33]? = some (.slice none 0 0) := by
  rw [rowR_get hL0 (by omega)]
  have e0 : (L[0]).1.l = [] := by
   have : (L.map (·.1))[0]? = some b0 := by rw [p1, eR]; rfl
   rw [List.getElem?_map, List.getElem?_eq_getElem hL0] at this
   have this : (L[0]).1 = b0 := Option.some.inj this
   rw [this]; exact eb
  have e1 := (p2 L[0] (List.getElem_mem hL0)).nl e0
  unfold rvC
  rw [rcP_p, e0, e1]; rfl
 rw [own_at]
 repeat' ((conv => whnf); first
  | refine nv_eq (a := 0 * 34) (by omega) ?_ | refine ld1_row (n := og) hg0 ?_ | refine need (by first | rfl | omega) ?_ | (refine ifs (fun h => ?_) (fun h => ?_) <;> try (exfalso; first | omega | with_reducible first | contradiction | exact h rfl)))
 all_goals (conv => whnf)
 have hus := hI.us
 have hlen := fun (k : Nat) (hk : k ≤ R.length) => show (blks R).length = (blks (R.take k)).length + (blks (R.drop k)).length by rw [← List.length_append, ← blks_append, List.take_append_drop]
 have hJ : J = jr_ super d area R := hI.eq
 refine loop_rule [13, 81] (fun vs M m => ∃ (k q : Nat) (o2 : Orc), vs = [.slice (some ⟨g, q, none⟩) (blks (R.drop k)).length (c - (blks (R.take k)).length), .int .i64 k] ∧ k ≤ R.length ∧ m = R.length - k ∧ (k < R.length → q = (blks (R.take k)).length) ∧ o2.on = o.on ∧ o2.ts.length ≤ o.ts.length + 1 + k ∧
  M = rgM ⟨a, tks r used⟩ ++ (orcM o2 ++ (jB jn a.rn o.on (jr_ super d area (R.take k)) :: anB an J.anchor :: ⟨g, .row (strV (nws r d (1 + 80 * area) used) ++ jk) 9⟩ :: ⟨og, .row (rowR L ++ ojk) 191⟩ :: putsM L))) rfl ?_ ?_
 · have hl1 := addT_len o.ts (startS super d area)
   exact fin_g (A := rgM ⟨a, tks r used⟩ ++ (orcM o1 ++ (jB jn a.rn o.on (jr0 super d area (D (startS super d area))) :: anB an J.anchor :: ⟨g, _⟩ :: ⟨og, _⟩ :: putsM L))) (.grp takeG (.grp takeG (.blk takeC (.blk takeC (.blk takeC (.blk takeC (.one takeE))))))) ⟨_, 0, 0, o1, by rw [List.drop_zero, List.take_zero, blks_nil, ← hus]; rfl, Nat.zero_le _, rfl, fun _ => by rw [List.take_zero, blks_nil]; rfl, a1, by rw [a2]; omega, rfl⟩
 rintro vs junk M' m ⟨k, q, o2, rfl, hk, rfl, hq, ho2, hts, rfl⟩
 by_cases hk6 : k < R.length
 · have hLk : k < L.length := by omega
   have hat := rowR_at hLk ojk
   have hy1 : (L[k]).1 = R[k] := by
    have : (L.map (·.1))[k]? = some R[k] := by rw [p1, List.getElem?_eq_getElem hk6]
    rw [List.getElem?_map, List.getElem?_eq_getElem hLk] at this
    exact Option.some.inj this
   have hyO := p2 L[k] (List.getElem_mem hLk)
   have hx := hI.ok R[k] (List.getElem_mem hk6)
   have hsq := fun (h0 : 0 < k) => seq_at (super := super) (d := d) (area := area) hI.hd hk6 h0
   have hju := jr_used super d area (R.take k)
   have hdr : R.drop k = R[k] :: R.drop (k + 1) := List.drop_eq_getElem_cons hk6
   have htk : R.take (k + 1) = R.take k ++ [R[k]] := by rw [List.take_add_one, List.getElem?_eq_getElem hk6]; rfl
   have hjs := jr_s super d area (R.take k) R[k]
   rw [← htk] at hjs
   have hl0 := hlen k hk
   have hl1 := hlen (k + 1) hk6
   have hbc : (blks (R.drop k)).length = (R[k]).bs.length + (blks (R.drop (k + 1))).length := by rw [hdr, blks_cons, List.length_append]
   have hbp := bs_pos R[k]
   have hqe := hq hk6
   have hcut : ((strV (nws r d (1 + 80 * area) used) ++ jk).drop q).take (R[k]).bs.length = strV (R[k]).bs := by
    have h0 : ((strV (nws r d (1 + 80 * area) used) ++ jk).drop 0).take (blks R).length = strV (blks R) := by
     rw [List.drop_zero, hI.bl, List.take_append_of_le_length (by rw [strV_len]; exact Nat.le_refl _), List.take_of_length_le (by rw [strV_len]; exact Nat.le_refl _)]
    have e : blks R = blks (R.take k) ++ ((R[k]).bs ++ blks (R.drop (k + 1))) := by
     rw [← blks_cons, ← hdr, ← blks_append, List.take_append_drop]
    rw [e] at h0
    have := strV_mid h0
    rw [hqe, ← this, Nat.zero_add]
   generalize L[k] = y at *
   generalize R[k] = x at *
   obtain ⟨y1, S⟩ := y
   dsimp only at hy1
   subst hy1
   have c2 := rlength y1.l.length (by have := (chkE_0 hx).1; omega)
   rw [rl_bs hx] at c2
   have hadd := fun (c' : Nat) => jadds o2 jn a.rn g q c' (jr_ super d area (R.take k)) y1.seq y1.root (S.val y1.l.length) (strV (nws r d (1 + 80 * area) used) ++ jk) 9 y1.bs hcut ⟨hbp, by omega⟩ (bs_64 hx) (by omega) (by have := blks_ge R; omega)
   rw [ho2] at hadd
   have hadd : ∀ c' : Nat, Fnc Tryz.prog 180 [pt jn, .agg (rvC (y1, S)).toArray, .slice (some ⟨g, q, none⟩) y1.bs.length c'] (orcM o2 ++ [jB jn a.rn o.on (jr_ super d area (R.take k)), ⟨g, .row (strV (nws r d (1 + 80 * area) used) ++ jk) 9⟩]) (RetO o2 (addT o2.ts (nextSs (jr_ super d area (R.take k)).anchor y1.bs)) (fun o' => orcM o' ++ [jB jn a.rn o.on (jadd_ (jr_ super d area (R.take k)) y1), ⟨g, .row (strV (nws r d (1 + 80 * area) used) ++ jk) 9⟩]) (.tuple #[])) := hadd
   rw [← hjs] at hadd
   have hs2 : 0 ≤ y1.seq ∧ y1.seq ≤ 4294967295 := (chkE_0 hx).2.1
   rcases Nat.eq_zero_or_pos k with h0 | h0
   all_goals
    try have hs1 := hsq h0
    repeat' ((conv => whnf); first
     | refine nv_eq (a := k * 34) (by omega) ?_ | refine ldN_row (n := og) _ hat (rvC_len _) ?_ | refine nw_row (cs' := rcP 0 zD (.slice none 0 0)) rcP_z0 (fun xn => ?_) | refine force_of ?_ | (refine need ?_ ?_; exact rvC_len _) | refine st_whole (n := xn) (rvC_one _) (by rw [rcP_len, rvC_len]) ?_ | refine draw_any 19 [(0, true), (1, true), (2, true), (3, true), (5, true), (6, true), (7, true), (4, true), (8, false), (9, true), (10, true), (11, true)] [⟨xn, _⟩] rfl (by kernel_rfl) (kept_of (.cons takeC .nil) ?_) | refine kept_of (.cons takeC .nil) ?_ | refine fld1_row (rv_0 _) ?_ | refine ld1_row (n := jn) jC_s ?_ | refine ld1_row (n := xn) (rv_p _) ?_ | refine call_val c2 ?_ | refine draw_any 21 [(0, true), (2, true), (3, true), (4, true), (1, false), (5, false)] [] rfl (by kernel_rfl) (kept_nil ?_) | refine kept_nil ?_ | refine nv_eq (a := q) (by rw [show Int.toNat 0 = 0 from rfl]; split <;> omega) ?_ | refine nv_eq (a := y1.bs.length) (by rw [Int.toNat_natCast]; exact Nat.sub_zero _) ?_ | refine nv_eq (a := c - (blks (R.take k)).length) (Nat.sub_zero _) ?_ | refine ldN_whole (rvC_len _) ?_ | (refine call_go (hadd _) (.grp takeG (.blk takeC (.blk takeC .nil))) (fun o3 b1 b2 => ?_)) | (refine nv (fun q' hq' => ?_); refine nv_eq (a := (blks (R.drop (k + 1))).length) (by omega) ?_; refine nv_eq (a := c - (blks (R.take (k + 1))).length) (by omega) ?_) | refine need (by first | rfl | omega) ?_ | (refine wr (fun z hz => ?_); (try rw [Int.tdiv_eq_ediv_of_nonneg (by omega)] at hz); rw [w64 (by omega) (by omega)] at hz; subst hz) | (refine ifs (fun h => ?_) (fun h => ?_) <;> try (exfalso; first | omega | with_reducible first | contradiction | exact h rfl)))
    all_goals (conv => whnf)
    all_goals
     have hl2 := addT_len o2.ts (nextSs (jr_ super d area (R.take k)).anchor y1.bs)
     exact ⟨rfl, fin_g (A := rgM ⟨a, tks r used⟩ ++ (orcM o3 ++ (jB jn a.rn o.on (jr_ super d area (R.take (k + 1))) :: anB an J.anchor :: ⟨g, _⟩ :: ⟨og, _⟩ :: putsM L))) (.grp takeG (.grp takeG (.blk takeC (.blk takeC (.blk takeC (.blk takeC (.one takeE))))))) ⟨R.length - (k + 1), by omega, k + 1, q', o3, rfl, by omega, rfl, fun h => by have := bs_pos R[k + 1]; have : 1 ≤ (blks (R.drop (k + 1))).length := (by rw [List.drop_eq_getElem_cons h, blks_cons, List.length_append]; omega); rw [hq', if_neg (by omega)]; omega, b1.trans ho2, by rw [b2]; omega, rfl⟩⟩
 · obtain rfl : k = R.length := by omega
   rw [List.take_length, ← hJ]
   repeat' ((conv => whnf); first
    | refine draw_any 24 [(0, true), (1, true), (2, true), (3, true), (4, false), (5, true)] [⟨jn, _⟩] rfl (by kernel_rfl) (kept_of (.cons takeC .nil) ?_) | refine kept_of (.cons takeC .nil) ?_ | refine fldN_r (n := jn) _ jC_n (dgV_len _) ?_ | refine ldN_dg rfl ?_ | (refine fagg_eql Tree.kDg (by decide) rfl rfl rfl rfl (by kernel_rfl) (Tree.fDg _) (Tree.fDg _) ?_; refine ift rfl ?_) | (refine ifs (fun h => ?_) (fun h => ?_) <;> try (exfalso; first | omega | with_reducible first | contradiction | exact h rfl)))
   all_goals (conv => whnf)
   exact fin_g (A := rgM ⟨a, tks r used⟩ ++ (orcM o2 ++ (jB jn a.rn o.on J :: ⟨og, _⟩ :: putsM L))) (.grp takeG (.grp takeG (.blk takeC (.blk takeC (.one takeE))))) ⟨jn, L, .at_ og oc ojk, o2, p1, p2, p3, ho2, hts, rfl, rfl⟩
end Stg
namespace Reg
open Go Ev Be Geom
def S (c : Dg) : ByteArray := str (L96 c)
theorem S_size (c : Dg) : (S c).size = 96 := by unfold S; rw [Ev.str_size]; rfl
abbrev bD (c : Dg) : Dg := fun i => c (32 + i)
def eC (c : Dg) : Int := getN ((S c).extract 64 68)
def iC (c : Dg) : Int := getN ((S c).extract 68 76)
def fC (c : Dg) (k : Nat) : Int := ((c k).toNat : Int)
theorem fC_bd (c : Dg) (k : Nat) : 0 ≤ fC c k ∧ fC c k ≤ 255 := by unfold fC; have := (c k).toNat_lt; omega
def tC (c : Dg) : Bool := decide (fC c 82 = 1)
theorem by_at {s : ByteArray} {a n : Int} (h0 : 0 ≤ n) (ha : 0 ≤ a) (hs : a + n ≤ s.size) : byE s a n = 0 ∧ byS s a n = s.extract a.toNat (a + n).toNat ∧ byA s a n = a + n := by
 rcases by_cases' s a n with ⟨q, _⟩ | ⟨q, q2, _⟩ | ⟨q, q2, e1, e2, e3⟩
 · omega
 · omega
 · exact ⟨e1, e2, e3⟩
theorem cp0 (c : Dg) : ((S c).extract 0 32).data.toList.map (fun x => Value.int .u8 (x.toNat : Int)) = dV c := by
 unfold S; rw [ext_str, str_data]; rfl
theorem cp1 (c : Dg) : ((S c).extract 32 64).data.toList.map (fun x => Value.int .u8 (x.toNat : Int)) = dV (bD c) := by
 unfold S; rw [ext_str, str_data]; rfl
theorem bS (c : Dg) {k : Nat} (hk : k < 96) : byteAt (S c) k = fC c k := by
 have e : L96 c = (List.range 96).map c := rfl
 unfold S byteAt fC
 rw [str_data, e, List.getElem?_map, List.getElem?_range hk]
 rfl
theorem num_e (c : Dg) : nuN (S c) 64 4 = eC c ∧ nuA (S c) 64 4 = 68 := by
 have := nu_at (s := S c) (a := 64) (n := 4) (by omega) (by omega) (by omega) (by rw [S_size]; omega)
 exact ⟨this.1, this.2 (by omega)⟩
theorem num_i (c : Dg) : nuN (S c) 68 8 = iC c := (nu_at (s := S c) (a := 68) (n := 8) (by omega) (by omega) (by omega) (by rw [S_size]; omega)).1
theorem num_iA (c : Dg) (h : getE ((S c).extract 68 76) = 0) : nuA (S c) 68 8 = 76 := by
 rcases nu_cases (S c) 68 8 with ⟨q, _⟩ | ⟨q, q2, _⟩ | ⟨q, q2, q3, e1, e2, e3⟩ | ⟨q, q2, q3, e1, e2, e3⟩
 · omega
 · rw [S_size] at q2; omega
 · exact e3
 · exact absurd h q3
theorem S_data (c : Dg) : (S c).data.toList = (List.range 96).map c := by unfold S; rw [str_data]; rfl
theorem ext1 (c : Dg) {k : Nat} (hk : k < 96) : (S c).extract k (k + 1) = str [c k] := by
 rw [ext_bytes, S_data]
 refine congrArg str ?_
 rw [← List.map_take, ← List.map_drop, List.take_range, Nat.min_eq_left (by omega)]
 have : (List.range (k + 1)).drop k = [k] := by
  rw [List.range_succ, List.drop_append_of_le_length (by simp), List.drop_of_length_le (by simp)]; rfl
 rw [this]; rfl
theorem getN_1 (x : UInt8) : getN (str [x]) = (x.toNat : Int) := by
 have hE : getE (str [x]) = 0 := by
  unfold getE
  rw [Ev.str_size]
  simp
 unfold getN
 rw [if_pos hE, str_data]
 simp [bval]
theorem num1 (c : Dg) {k : Nat} (hk : k < 96) : nuN (S c) k 1 = fC c k ∧ nuA (S c) k 1 = ((k + 1 : Nat) : Int) := by
 have h1 := nu_at (s := S c) (a := k) (n := 1) (by omega) (by omega) (by omega) (by rw [S_size]; omega)
 refine ⟨?_, by have := h1.2 (by omega); rw [this]; omega⟩
 rw [h1.1, show ((k : Int)).toNat = k by omega, show ((k : Int) + 1).toNat = k + 1 by omega, ext1 c hk, getN_1]
 rfl
structure GO (c : Dg) : Prop where
 iv : getE ((S c).extract 68 76) = 0
 rr : RR (bD c) (eC c) (iC c) (fC c 76) (fC c 78) (fC c 77) (fC c 79) (fC c 80) (fC c 81) (tC c)
 eq : str (layL c (bD c) (eC c) (iC c) (fC c 76) (fC c 78) (fC c 77) (fC c 79) (fC c 80) (fC c 81) (tC c)) = S c
structure RO (c : Dg) : Prop where
 iv : getE ((S c).extract 68 76) = 0
 at' : fC c 82 ≤ 1
 m3 : fC c 83 = 103
 ze : (S c).extract 84 96 = str (List.replicate 12 0)
 rr : RR (bD c) (eC c) (iC c) (fC c 76) (fC c 78) (fC c 77) (fC c 79) (fC c 80) (fC c 81) (tC c)
theorem by1_fC (c : Dg) (k : Nat) : by1 (fC c k) = c k := by
 unfold by1 fC
 simp
theorem getE4 {s : ByteArray} (h : s.size = 4) : getE s = 0 := by
 unfold getE
 rw [if_neg (by omega), if_neg (by omega), if_neg (by omega)]
theorem bval_ext' {c : Dg} {i j k : Nat} (hj : j ≤ 96) (hk : j - i = k) (hij : i ≤ j) (hE : getE ((S c).extract i j) = 0) : bb k (getN ((S c).extract i j)).toNat = ((L96 c).take j).drop i := by
 rw [getN_val hE, Int.toNat_natCast]
 have hl : ((S c).extract i j).data.toList.length = k := by
  show ((S c).extract i j).size = k
  rw [ByteArray.size_extract, S_size]; omega
 have := bb_bval ((S c).extract i j).data.toList
 rw [hl] at this
 rw [this]
 unfold S
 rw [ext_str, str_data]
theorem go_iff (c : Dg) : GO c ↔ RO c := by
 constructor
 · rintro ⟨h1, h2, h3⟩
   have hl := str_inj.1 h3
   have k82 := congrArg (fun l : List UInt8 => l[82]?) hl
   have k83 := congrArg (fun l : List UInt8 => l[83]?) hl
   have e1 : ∀ t, (layL c (bD c) (eC c) (iC c) (fC c 76) (fC c 78) (fC c 77) (fC c 79) (fC c 80) (fC c 81) t)[82]? = some (if t then 1 else 0) := fun _ => rfl
   have e2 : ∀ t, (layL c (bD c) (eC c) (iC c) (fC c 76) (fC c 78) (fC c 77) (fC c 79) (fC c 80) (fC c 81) t)[83]? = some 103 := fun _ => rfl
   have e3 : (L96 c)[82]? = some (c 82) := rfl
   have e4 : (L96 c)[83]? = some (c 83) := rfl
   simp only [e1, e2, e3, e4, Option.some.injEq] at k82 k83
   refine ⟨h1, ?_, ?_, ?_, h2⟩
   · unfold fC; rw [← k82]; cases tC c <;> decide
   · unfold fC; rw [← k83]; rfl
   · conv => lhs; rw [← h3]
     rw [ext_str]
     rfl
 · rintro ⟨h1, h2, h3, h4, h5⟩
   refine ⟨h1, h5, ?_⟩
   have b4 := bval_ext' (c := c) (k := 4) (show 68 ≤ 96 by omega) (show 68 - 64 = 4 by omega) (by omega) (getE4 (by rw [ByteArray.size_extract, S_size]; rfl))
   have b8 := bval_ext' (c := c) (k := 8) (show 76 ≤ 96 by omega) (show 76 - 68 = 8 by omega) (by omega) h1
   have et : (if tC c then (1 : UInt8) else 0) = c 82 := by
    have hb := fC_bd c 82
    unfold tC
    apply UInt8.toNat_inj.1
    by_cases h : fC c 82 = 1
    · rw [decide_eq_true h]; unfold fC at h; simp; omega
    · rw [decide_eq_false h]; unfold fC at h h2 hb; simp; omega
   have e103 : (103 : UInt8) = c 83 := by
    apply UInt8.toNat_inj.1
    unfold fC at h3
    have : ((103 : UInt8).toNat : Int) = 103 := rfl
    omega
   have hz : ((L96 c).take 96).drop 84 = List.replicate 12 0 := by
    unfold S at h4
    rw [ext_str] at h4
    exact str_inj.1 h4
   unfold S
   refine congrArg str ?_
   unfold layL eC iC
   rw [b4, b8, et, e103, ← hz]
   simp only [by1_fC]
   have c1 : dl c ++ dl (bD c) = (L96 c).take 64 := rfl
   have c2 : [c 76, c 77, c 78, c 79, c 80, c 81, c 82, c 83] = ((L96 c).take 84).drop 76 := rfl
   have ec : ∀ (l : List UInt8) (i j : Nat), i ≤ j → l.take i ++ (l.take j).drop i = l.take j := by
    intro l i j h
    have := List.take_append_drop i (l.take j)
    rwa [List.take_take, Nat.min_eq_left h] at this
   rw [c1, c2, ec _ 64 68 (by omega), ec _ 68 76 (by omega), ec _ 76 84 (by omega), ec _ 84 96 (by omega)]
   rfl
theorem go_nz (c : Dg) (h : GO c) : ¬ S c = str (List.replicate 96 0) := by
 intro hq
 have h3 := ((go_iff c).1 h).m3
 have := congrArg (fun l : List UInt8 => l[83]?) (str_inj.1 hq)
 have e4 : (L96 c)[83]? = some (c 83) := rfl
 have e5 : (List.replicate 96 (0 : UInt8))[83]? = some 0 := rfl
 simp only [e4, e5, Option.some.injEq] at this
 unfold fC at h3
 rw [this] at h3
 simp at h3
end Reg
namespace Reg
open Go Ev Be Geom
theorem by1_back {x : Int} (h0 : 0 ≤ x) (h1 : x ≤ 255) : ((by1 x).toNat : Int) = x := by
 unfold by1
 rw [UInt8.toNat_ofNat']
 omega
section
variable {a b c : Dg} {e iv a0 a1 u0 u1 d m : Int} {t : Bool}
theorem lay_back (h : RR b e iv a0 a1 u0 u1 d m t) (hc : S c = str (layL a b e iv a0 a1 u0 u1 d m t)) :
 GO c ∧ regL c (bD c) (eC c) (iC c) (fC c 76) (fC c 78) (fC c 77) (fC c 79) (fC c 80) (fC c 81) (tC c) = regL a b e iv a0 a1 u0 u1 d m t := by
 have hl : L96 c = layL a b e iv a0 a1 u0 u1 d m t := str_inj.1 hc
 have g1 := h.a00; have g2 := h.a01; have g3 := h.a10; have g4 := h.a11; have g5 := h.u00; have g6 := h.u01; have g7 := h.u10; have g8 := h.u11; have g9 := h.d0; have g10 := h.d1; have g11 := h.m0; have g12 := h.m1; have g13 := h.e1; have g14 := h.i1
 have d1 : dl c = dl a := congrArg (fun l : List UInt8 => l.take 32) hl
 have d2 : dl (bD c) = dl b := congrArg (fun l : List UInt8 => (l.take 64).drop 32) hl
 have x1 : (S c).extract 64 68 = putS e 4 := by
  rw [hc, ext_str, putS_e h]
  rfl
 have x2 : (S c).extract 68 76 = putS iv 8 := by
  rw [hc, ext_str, putS_iv h]
  rfl
 have p1 := putS_get (a := e) (by omega) (putE4 h.e0 h.e1)
 have p2 := putS_get (a := iv) (by omega) (putE8 h.i0)
 have e1 : eC c = e := by unfold eC; rw [x1]; exact p1.2
 have e2 : iC c = iv := by unfold iC; rw [x2]; exact p2.2
 have k76 : c 76 = by1 a0 := by have := congrArg (fun l : List UInt8 => l[76]?) hl; exact Option.some.inj this
 have k77 : c 77 = by1 u0 := by have := congrArg (fun l : List UInt8 => l[77]?) hl; exact Option.some.inj this
 have k78 : c 78 = by1 a1 := by have := congrArg (fun l : List UInt8 => l[78]?) hl; exact Option.some.inj this
 have k79 : c 79 = by1 u1 := by have := congrArg (fun l : List UInt8 => l[79]?) hl; exact Option.some.inj this
 have k80 : c 80 = by1 d := by have := congrArg (fun l : List UInt8 => l[80]?) hl; exact Option.some.inj this
 have k81 : c 81 = by1 m := by have := congrArg (fun l : List UInt8 => l[81]?) hl; exact Option.some.inj this
 have k82 : c 82 = (if t then 1 else 0) := by have := congrArg (fun l : List UInt8 => l[82]?) hl; exact Option.some.inj this
 have f76 : fC c 76 = a0 := by unfold fC; rw [k76]; exact by1_back (by omega) (by omega)
 have f77 : fC c 77 = u0 := by unfold fC; rw [k77]; exact by1_back (by omega) (by omega)
 have f78 : fC c 78 = a1 := by unfold fC; rw [k78]; exact by1_back (by omega) (by omega)
 have f79 : fC c 79 = u1 := by unfold fC; rw [k79]; exact by1_back (by omega) (by omega)
 have f80 : fC c 80 = d := by unfold fC; rw [k80]; exact by1_back (by omega) (by omega)
 have f81 : fC c 81 = m := by unfold fC; rw [k81]; exact by1_back (by omega) (by omega)
 have f82 : tC c = t := by
  unfold tC fC
  rw [k82]
  cases t <;> rfl
 have v1 : dV c = dV a := by rw [dV_u8, dV_u8, d1]
 have v2 : dV (bD c) = dV b := by rw [dV_u8, dV_u8, d2]
 constructor
 · refine ⟨by rw [x2]; exact p2.1, ?_, ?_⟩
   · rw [e1, e2, f76, f77, f78, f79, f80, f81, f82]
     exact ⟨h.e0, h.e1, h.i0, h.i1, h.d0, h.d1, h.m0, h.m1, h.a00, h.a01, h.a10, h.a11, h.u00, h.u01, h.u10, h.u11, h.at1, h.at2, h.at3, fun ht => v2.trans (h.at4 ht), h.md⟩
   · rw [e1, e2, f76, f77, f78, f79, f80, f81, f82, hc]
     refine congrArg str ?_
     unfold layL
     rw [d1, d2]
 · rw [e1, e2, f76, f77, f78, f79, f80, f81, f82]
   have r : ∀ x y : Dg, regL x y e iv a0 a1 u0 u1 d m t = dV x ++ dV y ++ [.int .i64 e, .int .i64 iv, .int .i64 a0, .int .i64 a1, .int .i64 u0, .int .i64 u1, .int .i64 d, .int .i64 m, .bool t] := fun _ _ => rfl
   rw [r, r, v1, v2]
theorem lay_some (a b : Dg) (e iv a0 a1 u0 u1 d m : Int) (t : Bool) : ∃ c : Dg, S c = str (layL a b e iv a0 a1 u0 u1 d m t) := by
 obtain ⟨c, hc⟩ := str_96 (s := str (layL a b e iv a0 a1 u0 u1 d m t)) (by rw [Ev.str_size, layL_length])
 exact ⟨c, hc.symm⟩
end
end Reg
namespace Reg
open Go Ev Be Geom
attribute [local irreducible] convert Builtin.copy_ Builtin.append_ Instr.makeSlice
attribute [local irreducible] S layL eC iC fC putS putE nuN nuA byS byE byA nuE getE getN tC
theorem Fnc_mono {P : Program} {f : FuncId} {args : List Value} {A : List Blk} {Q Q' : Ending → List Blk → Prop} (h : Fnc P f args A Q) (hq : ∀ e A', Q e A' → Q' e A') : Fnc P f args A Q' := by
 have := h.out
 delta Fnc
 exact ⟨this.1, fun w hm => (this.2 w hm).mono fun e w' ⟨A', s1, hk⟩ => ⟨A', s1, hq e A' hk⟩⟩
def GQ (c : Dg) (v : Nat → Int) (t : Bool) : Prop := RR (bD c) (eC c) (iC c) (v 0) (v 2) (v 1) (v 3) (v 4) (v 5) t ∧ str (layL c (bD c) (eC c) (iC c) (v 0) (v 2) (v 1) (v 3) (v 4) (v 5) t) = S c
def GP (c : Dg) (v : Nat → Int) (t : Bool) : Ending → List Blk → Prop := fun e A => A = [] ∧
    ((GQ c v t ∧ e = .returned (.tuple #[.agg (regL c (bD c) (eC c) (iC c) (v 0) (v 2) (v 1) (v 3) (v 4) (v 5) t).toArray, .int .i64 0])) ∨ (¬ GQ c v t ∧ e = .returned (.tuple #[.agg regZ.toArray, .int .i64 6])))
theorem gp_t {c : Dg} {v : Nat → Int} {t : Bool} (h1 : RR (bD c) (eC c) (iC c) (v 0) (v 2) (v 1) (v 3) (v 4) (v 5) t) (h2 : str (layL c (bD c) (eC c) (iC c) (v 0) (v 2) (v 1) (v 3) (v 4) (v 5) t) = S c) :
 GP c v t (.returned (oneOrMany [.agg (regL c (bD c) (eC c) (iC c) (v 0) (v 2) (v 1) (v 3) (v 4) (v 5) t).toArray, .int .i64 0])) [] := ⟨rfl, .inl ⟨⟨h1, h2⟩, rfl⟩⟩
theorem gp_f {c : Dg} {v : Nat → Int} {t : Bool} (h : ¬ GQ c v t) : GP c v t (.returned (oneOrMany [.agg regZ.toArray, .int .i64 6])) [] := ⟨rfl, .inr ⟨h, rfl⟩⟩
theorem get_core (c : Dg) (hz : ¬ S c = str (List.replicate 96 0)) (p v : Nat → Int) (t : Bool) (hA : nuA (S c) 68 8 = p 0) (hm : ∀ j, j < 7 → nuN (S c) (p j) 1 = v j ∧ nuA (S c) (p j) 1 = p (j + 1)) (hp : ∀ j, j ≤ 7 → 0 ≤ p j ∧ p j ≤ 96) (ht : t = decide (v 6 = 1)) :
 Fnc Tryz.prog 192 [.string (S c)] [] (GP c v t) := by
 have hs := S_size c
 have b0 : byE (S c) 0 32 = 0 ∧ byS (S c) 0 32 = (S c).extract 0 32 ∧ byA (S c) 0 32 = 32 := by_at (by omega) (by omega) (by omega)
 have b1 : byE (S c) 32 32 = 0 ∧ byS (S c) 32 32 = (S c).extract 32 64 ∧ byA (S c) 32 32 = 64 := by_at (by omega) (by omega) (by omega)
 have n64 := num_e c
 have n68 := num_i c
 have m0 := hm 0 (by omega)
 have m1 := hm 1 (by omega)
 have m2 := hm 2 (by omega)
 have m3 := hm 3 (by omega)
 have m4 := hm 4 (by omega)
 have m5 := hm 5 (by omega)
 have m6 := hm 6 (by omega)
 have q0 := hp 0 (by omega)
 have q1 := hp 1 (by omega)
 have q2 := hp 2 (by omega)
 have q3 := hp 3 (by omega)
 have q4 := hp 4 (by omega)
 have q5 := hp 5 (by omega)
 have q6 := hp 6 (by omega)
 simp only [Nat.reduceAdd] at m0 m1 m2 m3 m4 m5 m6
 have p0 := cp0 c
 have p1 := cp1 c
 clear hm hp
 refine fn_intro Tryz.func192 (by kernel_rfl) ?_
 repeat' ((conv => whnf); first
  | refine mk_row rfl rfl rfl rfl rfl (by omega) (by omega) (by decide) (fun g => ?_) | refine b2s_row (l := List.replicate 96 0) (junk := []) (by simp [u8s]) rfl rfl rfl (by simp) ?_ | (refine call_fn (Be.read _) .nil (fun e A' hq => ?_); obtain ⟨r, h1, h2⟩ := hq; subst h1; subst h2) | refine loop_n 3 ?_ | (refine nv (fun z hz => ?_); (try simp at hz); subst hz) | (refine call_ret (Be.bytes _ _ 0 32 (by omega) (by omega) (by omega)) (.cons .here .nil) ?_; rw [b0.1, b0.2.1, b0.2.2]) | (refine call_ret (Be.bytes _ _ 32 32 (by omega) (by omega) (by omega)) (.cons .here .nil) ?_; rw [b1.1, b1.2.1, b1.2.2]) | (refine copy_str (n := 32) rfl rfl rfl (by rw [ByteArray.size_extract, hs]; rfl) (by decide) ?_; first | rw [p0] | rw [p1]) | (refine call_ret (Be.num _ _ 64 4 (by omega) (by omega) (by omega)) (.cons .here .nil) ?_; rw [n64.1, n64.2]) | (refine call_ret (Be.num _ _ 68 8 (by omega) (by omega) (by omega)) (.cons .here .nil) ?_; rw [n68, hA]) | (refine call_ret (Be.num _ _ (p 0) 1 (by omega) (by omega) (by omega)) (.cons .here .nil) ?_; rw [m0.1, m0.2]) | (refine call_ret (Be.num _ _ (p 1) 1 (by omega) (by omega) (by omega)) (.cons .here .nil) ?_; rw [m1.1, m1.2]) | (refine call_ret (Be.num _ _ (p 2) 1 (by omega) (by omega) (by omega)) (.cons .here .nil) ?_; rw [m2.1, m2.2]) | (refine call_ret (Be.num _ _ (p 3) 1 (by omega) (by omega) (by omega)) (.cons .here .nil) ?_; rw [m3.1, m3.2]) | (refine call_ret (Be.num _ _ (p 4) 1 (by omega) (by omega) (by omega)) (.cons .here .nil) ?_; rw [m4.1, m4.2]) | (refine call_ret (Be.num _ _ (p 5) 1 (by omega) (by omega) (by omega)) (.cons .here .nil) ?_; rw [m5.1, m5.2]) | (refine call_ret (Be.num _ _ (p 6) 1 (by omega) (by omega) (by omega)) (.cons .here .nil) ?_; rw [m6.1, m6.2]) | refine ldN_lit ?_ | refine nw (fun n => ?_) | refine st_lit rfl ?_ | refine need (by first | rfl | omega) ?_ | (refine wr (fun z hz => ?_); (try rw [Int.tdiv_eq_ediv_of_nonneg (by omega)] at hz); rw [w64 (by omega) (by omega)] at hz; subst hz) | (refine ifs (fun h => ?_) (fun h => ?_) <;> try (exfalso; first | omega | with_reducible first | contradiction | exact h rfl)))
 · obtain rfl : t = true := by rw [ht]; exact decide_eq_true ‹v 6 = 1›
   rcases Classical.em (RR (bD c) (eC c) (iC c) (v 0) (v 2) (v 1) (v 3) (v 4) (v 5) true) with hR | hR
   all_goals repeat' ((conv => whnf); first
    | refine call_val (put_t c hR) ?_ | refine call_val (put_f c hR) ?_ | exact fin_nil (gp_t hR ‹str _ = _›)
    | exact fin_nil (gp_f (fun hq => ‹¬ str _ = _› hq.2))
    | exact fin_nil (gp_f (fun hq => hR hq.1))
    | refine ldN_lit ?_ | refine bld ?_ | refine st_lit rfl ?_ | refine need (by first | rfl | omega) ?_ | (refine ifs (fun h => ?_) (fun h => ?_) <;> try (exfalso; first | omega | with_reducible first | contradiction | exact h rfl)))
 · obtain rfl : t = false := by rw [ht]; exact decide_eq_false ‹¬ v 6 = 1›
   rcases Classical.em (RR (bD c) (eC c) (iC c) (v 0) (v 2) (v 1) (v 3) (v 4) (v 5) false) with hR | hR
   all_goals repeat' ((conv => whnf); first
    | refine call_val (put_t c hR) ?_ | refine call_val (put_f c hR) ?_ | exact fin_nil (gp_t hR ‹str _ = _›)
    | exact fin_nil (gp_f (fun hq => ‹¬ str _ = _› hq.2))
    | exact fin_nil (gp_f (fun hq => hR hq.1))
    | refine ldN_lit ?_ | refine bld ?_ | refine st_lit rfl ?_ | refine need (by first | rfl | omega) ?_ | (refine ifs (fun h => ?_) (fun h => ?_) <;> try (exfalso; first | omega | with_reducible first | contradiction | exact h rfl)))
theorem get_good (c : Dg) (hz : ¬ S c = str (List.replicate 96 0)) (hE : getE ((S c).extract 68 76) = 0) : Fnc Tryz.prog 192 [.string (S c)] [] (GP c (fun j => fC c (76 + j)) (tC c)) := by
 refine get_core c hz (fun j => ((76 + j : Nat) : Int)) (fun j => fC c (76 + j)) (tC c) (num_iA c hE) (fun j hj => ?_) (fun j hj => by omega) ?_
 · exact num1 c (k := 76 + j) (by omega)
 · unfold tC; rfl
theorem get_yes (c : Dg) (h : GO c) : Fnc Tryz.prog 192 [.string (S c)] [] (Ret (.tuple #[.agg (regL c (bD c) (eC c) (iC c) (fC c 76) (fC c 78) (fC c 77) (fC c 79) (fC c 80) (fC c 81) (tC c)).toArray, .int .i64 0]) []) := by
 refine Fnc_mono (get_good c (go_nz c h) h.iv) fun e A hq => ?_
 obtain ⟨rfl, h1⟩ := hq
 rcases h1 with ⟨_, h2⟩ | ⟨h1, _⟩
 · exact ⟨h2, rfl⟩
 · exact absurd ⟨h.rr, h.eq⟩ h1
end Reg
namespace Reg
open Go Ev Be Geom
theorem get_lay {b : Dg} {e iv a0 a1 u0 u1 d m : Int} {t : Bool} (h : RR b e iv a0 a1 u0 u1 d m t) (a : Dg) : Fnc Tryz.prog 192 [.string (str (layL a b e iv a0 a1 u0 u1 d m t))] [] (Ret (.tuple #[.agg (regL a b e iv a0 a1 u0 u1 d m t).toArray, .int .i64 0]) []) := by
 obtain ⟨c, hc⟩ := lay_some a b e iv a0 a1 u0 u1 d m t
 obtain ⟨h1, h2⟩ := lay_back h hc
 have := get_yes c h1
 rwa [h2, hc] at this
end Reg
namespace Geom
open Go Ev Be
theorem sup_size (b s m : Int) (c : ByteArray) : (supS b s m c).size = 32 + c.size := by unfold supS; rw [ByteArray.size_append, str_size, headL_length]
attribute [local irreducible] superS superE getN getE supS readOk
theorem gread_ok {s : ByteArray} (hs : s.size ≤ 140737488351232) (h : readOk s) : Fnc Tryz.prog 194 [.string s] [] (Ret (.tuple #[.agg #[.int .i64 (gB s), .int .i64 (gS s), .int .i64 (gM s)], .string (s.extract 32 64), .int .i64 0]) []) := by have := gread s hs; rwa [if_pos h] at this
end Geom
namespace Stg
open Go Ev Sha Aes Orc Node Rec Chn Jrn Cau Sto Srt Wld Cmt
open Rig (Fnc_takeR RigP Rg rgM readR writeR flushR setRegR z64 app_of tick comes write_ mayE RigA regR)
theorem stC_s5 {x : StP} {s : ByteArray} : (stC x).set 5 (.string s) = stC { x with super := s } := rfl
theorem stC_sg {x : StP} {g0 g1 g2 : Int} : (stC x).take 2 ++ [.int .i64 g0, .int .i64 g1, .int .i64 g2] ++ (stC x).drop (2 + 3) = stC { x with g0 := g0, g1 := g1, g2 := g2 } := rfl
theorem stC_76 {x : StP} : (stC x)[76]? = some (.int .i64 x.is.ar0) := rfl
theorem stC_77 {x : StP} : (stC x)[77]? = some (.int .i64 x.is.ar1) := rfl
theorem stC_78 {x : StP} : (stC x)[78]? = some (.int .i64 x.is.u0) := rfl
theorem stC_79 {x : StP} : (stC x)[79]? = some (.int .i64 x.is.u1) := rfl
theorem stC_a0 {x : StP} : ((stC x).drop 10).take (dgV x.is.a0).length = dgV x.is.a0 := rfl
theorem stC_a1 {x : StP} : ((stC x).drop 42).take (dgV x.is.a1).length = dgV x.is.a1 := rfl
section
variable {P : Program} {M : List Blk} {n : Nat} {T : TypeId} {f : Blk → List Blk} {k : List Blk → Prop} {x : StP}
theorem st_5 {s : ByteArray} [z : Zip M n (.row (stC x) T) f] (hk : k (f ⟨n, .row (stC { x with super := s }) T⟩)) : StN P M n 5 [.string s] k := st_row rfl (by rw [stC_len]; omega) (by rw [stC_s5]; exact hk)
theorem st_g {g0 g1 g2 : Int} [z : Zip M n (.row (stC x) T) f] (hk : k (f ⟨n, .row (stC { x with g0 := g0, g1 := g1, g2 := g2 }) T⟩)) : StN P M n 2 [.int .i64 g0, .int .i64 g1, .int .i64 g2] k :=
 st_rowN (by intro u hu; simp only [List.mem_cons, List.not_mem_nil, or_false] at hu; rcases hu with rfl | rfl | rfl <;> rfl) (by rw [stC_len]; show 2 + 3 ≤ 157; omega) (by show k (f ⟨n, .row ((stC x).take 2 ++ [.int .i64 g0, .int .i64 g1, .int .i64 g2] ++ (stC x).drop (2 + 3)) T⟩); rw [stC_sg]; exact hk)
end
theorem get_reg {y : RgV} (h : y.ok) : Fnc Tryz.prog 192 [.string y.lay] [] (Ret (.tuple #[.agg (regC y).toArray, .int .i64 0]) []) := by
 rw [regC_L]
 exact Reg.get_lay h y.a0
structure SuI (super : ByteArray) (g0 g1 g2 : Int) (ck : ByteArray) : Prop where
 e : super = Geom.supS g0 g1 g2 ck
 r : Geom.Right g0 g1 g2
 c : ck.size = 32
theorem SuI.size {super : ByteArray} {g0 g1 g2 : Int} {ck : ByteArray} (h : SuI super g0 g1 g2 ck) : super.size = 64 := by rw [h.e, Geom.sup_size, h.c]
theorem get_sup {super : ByteArray} {g0 g1 g2 : Int} {ck : ByteArray} (h : SuI super g0 g1 g2 ck) : Fnc Tryz.prog 194 [.string super] [] (Ret (.tuple #[.agg #[.int .i64 g0, .int .i64 g1, .int .i64 g2], .string ck, .int .i64 0]) []) := by
 obtain ⟨q1, q2, q3, q4, q5⟩ := Geom.sup_back h.r h.c
 have := Geom.gread_ok (s := Geom.supS g0 g1 g2 ck) (by rw [Geom.sup_size, h.c]; omega) q1
 rw [q2, q3, q4, q5] at this
 rw [h.e]; exact this
def StP.lk (x : StP) (y : RgV) (super : ByteArray) (g0 g1 g2 : Int) : StP := { x with is := y, super := super, g0 := g0, g1 := g1, g2 := g2 }
attribute [local irreducible] dgV D jC wrF rcC stC regC RgV.lay rgM readR rcP convert Builtin.copy_ Builtin.append_ Instr.makeSlice flatV recN recLs rowR putsM blks regR
theorem look_ (a : RigA) (r : RigP) (sn : Nat) (x : StP) (y : RgV) (super : ByteArray) (g0 g1 g2 : Int) (ck : ByteArray) (hf : Fine r) (hrn : x.rn = a.rn) (hy : y.ok) (hr : r.reg = y.lay) (hs : nw_ r 0 0 = super) (hg : SuI super g0 g1 g2 ck) :
 Fnc Tryz.prog 144 [pt sn, .bool false] (rgM ⟨a, r⟩ ++ [stB sn x]) (Ret (.string ck) (rgM ⟨a, tks r 2⟩ ++ [stB sn (StP.lk x y super g0 g1 g2)])) := by
 have e1 : regR r = (ticked r, r.reg, 0) := by
  unfold Rig.regR
  rw [hf.tick]; rfl
 have h1 := Rig.reg_ ⟨a, r⟩
 rw [e1] at h1
 have h1 : Fnc Tryz.prog 191 [pt x.rn] (rgM ⟨a, r⟩) (Ret (.tuple #[.string y.lay, .int .i64 0]) (rgM ⟨a, ticked r⟩)) := by rw [hrn, ← hr]; exact h1
 have h2 := Rig.read_ ⟨a, ticked r⟩ 0 (0 : Nat)
 rw [Tree.fine_read hf.ticked (.inl rfl) (by omega)] at h2
 have h2 : Fnc Tryz.prog 193 [pt x.rn, .int .i64 0, .int .i64 0] (rgM ⟨a, ticked r⟩) (Ret (.tuple #[.string super, .int .i64 0]) (rgM ⟨a, tks r 2⟩)) := by rw [hrn, ← hs]; exact h2
 have h3 := get_reg hy
 have h4 := get_sup hg
 refine fn_intro Tryz.func144 (by kernel_rfl) ?_
 repeat' ((conv => whnf); first
  | refine ld1_row (n := sn) stC_0 ?_ | refine ld1_row (n := sn) stC_5 ?_ | refine call_gr h1 (.one takeG) ?_ | refine call_gr h2 (.one takeG) ?_ | refine call_val must_ok ?_ | refine call_val h3 ?_ | refine call_val h4 ?_ | (refine need ?_ ?_; exact regC_len _) | refine st_is ?_ | refine st_5 ?_ | refine st_g ?_ | refine force_of ?_ | refine ldN_lit ?_ | refine nw (fun n => ?_) | refine st_lit rfl ?_ | refine need (by first | rfl | omega) ?_ | (refine ifs (fun h => ?_) (fun h => ?_) <;> try (exfalso; first | omega | with_reducible first | contradiction | exact h rfl)))
 all_goals (conv => whnf)
 exact fin_g (A := rgM ⟨a, tks r 2⟩ ++ [stB sn (StP.lk x y super g0 g1 g2)]) (.grp takeG (.blk takeC .nil)) ⟨rfl, rfl⟩
theorem load0_ (a : RigA) (r : RigP) (o : Orc) (sn : Nat) (x : StP) (area used : Nat) (R : List Rc) (J : JrP) (hf : Fine r) (hrn : x.rn = a.rn) (hon : x.on = o.on) (hI : LdI r x.super 0 area used R J) (h1 : x.is.ar0 = area) (h2 : x.is.u0 = used) (h3 : x.is.a0 = J.anchor) (hb : o.ts.length ≤ 1099511627000) :
 Fnc Tryz.prog 145 [pt sn, .int .i64 0] (rgM ⟨a, r⟩ ++ (orcM o ++ [stB sn x]))
  (fun e M => ∃ (jn : Nat) (L : List RS) (O : Own) (o' : Orc), L.map (·.1) = R ∧ (∀ y ∈ L, OkR y) ∧ O.ok 34 L.length (rowR L) ∧ o'.on = o.on ∧ o'.ts.length ≤ o.ts.length + 1 + R.length ∧ e = .returned (O.val L.length) ∧
    M = rgM ⟨a, tks r used⟩ ++ (orcM o' ++ (stB sn { x with j0 := some ⟨jn, 0, none⟩ } :: jB jn a.rn o.on J :: (O.blk 191 (rowR L) ++ putsM L)))) := by
 have hj := jload a r o x.super 0 area used R J hf hI hb
 unfold LdQ at hj
 rw [← hrn, ← hon] at hj ⊢
 have g1 : (stC x)[76]? = some (.int .i64 area) := by rw [← h1]; exact stC_76
 have g2 : (stC x)[78]? = some (.int .i64 used) := by rw [← h2]; exact stC_78
 have g3 : ((stC x).drop 10).take (dgV J.anchor).length = dgV J.anchor := by rw [← h3]; exact stC_a0
 refine fn_intro Tryz.func145 (by kernel_rfl) ?_
 repeat' ((conv => whnf); first
  | refine draw_any 1 [(0, true), (1, true), (2, true), (4, true), (5, true), (6, true), (8, true), (9, true), (10, true), (12, true), (13, true), (14, true), (15, true), (16, true), (17, true), (18, true), (21, true), (22, true), (23, true), (24, true), (25, true), (26, true), (28, true), (29, true), (30, true), (31, true), (32, true), (33, true), (3, true), (7, true), (11, true), (19, true), (20, true), (27, true), (34, false), (35, false), (36, true), (37, true), (38, true), (39, true), (40, true), (41, true), (42, true)] [⟨sn, _⟩] rfl (by kernel_rfl) (kept_of (.cons takeC .nil) ?_) | refine kept_of (.cons takeC .nil) ?_ | refine nv_eq (a := 76) rfl ?_ | refine nv_eq (a := 78) rfl ?_ | refine nv_eq (a := 10) rfl ?_ | refine nv_eq (a := 6) rfl ?_ | refine fld1_row (n := sn) stC_0 ?_ | refine fld1_row (n := sn) stC_1 ?_ | refine fld1_row (n := sn) stC_5 ?_ | refine fld1_row (n := sn) g1 ?_ | refine fld1_row (n := sn) g2 ?_ | refine ldN_row (n := sn) _ g3 (dgV_len _) ?_ | (refine call_g hj (.grp takeG (.one takeG)) (fun e A' hq => ?_); obtain ⟨jn, L, O, o1, p1, p2, p3, p4, p5, p6, p7⟩ := hq; subst p6; subst p7) | refine call_val must_ok ?_ | refine st_6 ?_ | refine bld ?_ | refine need (by first | rfl | omega) ?_)
 all_goals (conv => whnf)
 exact fin_g (A := rgM ⟨a, tks r used⟩ ++ (orcM o1 ++ (stB sn { x with j0 := some ⟨jn, 0, none⟩ } :: jB jn x.rn x.on J :: (O.blk 191 (rowR L) ++ putsM L)))) (.grp takeG (.grp takeG (.blk takeC (.blk takeC (.grp takeE (.one takeE)))))) ⟨jn, L, O, o1, p1, p2, p3, p4, p5, rfl, rfl⟩
theorem load1_ (a : RigA) (r : RigP) (o : Orc) (sn : Nat) (x : StP) (area used : Nat) (R : List Rc) (J : JrP) (hf : Fine r) (hrn : x.rn = a.rn) (hon : x.on = o.on) (hI : LdI r x.super 1 area used R J) (h1 : x.is.ar1 = area) (h2 : x.is.u1 = used) (h3 : x.is.a1 = J.anchor) (hb : o.ts.length ≤ 1099511627000) :
 Fnc Tryz.prog 145 [pt sn, .int .i64 1] (rgM ⟨a, r⟩ ++ (orcM o ++ [stB sn x]))
  (fun e M => ∃ (jn : Nat) (L : List RS) (O : Own) (o' : Orc), L.map (·.1) = R ∧ (∀ y ∈ L, OkR y) ∧ O.ok 34 L.length (rowR L) ∧ o'.on = o.on ∧ o'.ts.length ≤ o.ts.length + 1 + R.length ∧ e = .returned (O.val L.length) ∧
    M = rgM ⟨a, tks r used⟩ ++ (orcM o' ++ (stB sn { x with j1 := some ⟨jn, 0, none⟩ } :: jB jn a.rn o.on J :: (O.blk 191 (rowR L) ++ putsM L)))) := by
 have hj := jload a r o x.super 1 area used R J hf hI hb
 unfold LdQ at hj
 rw [← hrn, ← hon] at hj ⊢
 have g1 : (stC x)[77]? = some (.int .i64 area) := by rw [← h1]; exact stC_77
 have g2 : (stC x)[79]? = some (.int .i64 used) := by rw [← h2]; exact stC_79
 have g3 : ((stC x).drop 42).take (dgV J.anchor).length = dgV J.anchor := by rw [← h3]; exact stC_a1
 refine fn_intro Tryz.func145 (by kernel_rfl) ?_
 repeat' ((conv => whnf); first
  | refine draw_any 1 [(0, true), (1, true), (2, true), (4, true), (5, true), (6, true), (8, true), (9, true), (10, true), (12, true), (13, true), (14, true), (15, true), (16, true), (17, true), (18, true), (21, true), (22, true), (23, true), (24, true), (25, true), (26, true), (28, true), (29, true), (30, true), (31, true), (32, true), (33, true), (3, true), (7, true), (11, true), (19, true), (20, true), (27, true), (34, false), (35, false), (36, true), (37, true), (38, true), (39, true), (40, true), (41, true), (42, true)] [⟨sn, _⟩] rfl (by kernel_rfl) (kept_of (.cons takeC .nil) ?_) | refine kept_of (.cons takeC .nil) ?_ | refine nv_eq (a := 77) rfl ?_ | refine nv_eq (a := 79) rfl ?_ | refine nv_eq (a := 42) rfl ?_ | refine nv_eq (a := 8) rfl ?_ | refine fld1_row (n := sn) stC_0 ?_ | refine fld1_row (n := sn) stC_1 ?_ | refine fld1_row (n := sn) stC_5 ?_ | refine fld1_row (n := sn) g1 ?_ | refine fld1_row (n := sn) g2 ?_ | refine ldN_row (n := sn) _ g3 (dgV_len _) ?_ | (refine call_g hj (.grp takeG (.one takeG)) (fun e A' hq => ?_); obtain ⟨jn, L, O, o1, p1, p2, p3, p4, p5, p6, p7⟩ := hq; subst p6; subst p7) | refine call_val must_ok ?_ | refine st_8 ?_ | refine bld ?_ | refine need (by first | rfl | omega) ?_)
 all_goals (conv => whnf)
 exact fin_g (A := rgM ⟨a, tks r used⟩ ++ (orcM o1 ++ (stB sn { x with j1 := some ⟨jn, 0, none⟩ } :: jB jn x.rn x.on J :: (O.blk 191 (rowR L) ++ putsM L)))) (.grp takeG (.grp takeG (.blk takeC (.blk takeC (.grp takeE (.one takeE)))))) ⟨jn, L, O, o1, p1, p2, p3, p4, p5, rfl, rfl⟩
end Stg
end Go.Proofs.YtkjamonkohpcnaaGreat
