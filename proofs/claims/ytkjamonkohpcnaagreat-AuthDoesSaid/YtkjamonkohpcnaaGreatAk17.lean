/- Texts of this proof, merged. -/
import Derived.Test.YtkjamonkohpcnaaGreatAk16
set_option linter.unusedVariables false
set_option linter.unusedSimpArgs false
set_option linter.unusedSectionVars false
set_option maxRecDepth 100000
set_option maxHeartbeats 16000000
namespace Go.Proofs.YtkjamonkohpcnaaGreat
namespace Stg
open Go Ev Sha Aes Orc Node Rec Chn Jrn Cau Sto Srt
open Rig (Fnc_takeR RigP Rg rgM readR writeR flushR setRegR z64 app_of tick comes write_ flush_ setreg_ mayE RigA)
def rlen (n : Nat) : Nat := if 64 < n then 0 else 1 + (n + 31) / 32 + n
theorem rlength (n : Nat) (hn : n ≤ 1000000) : Fnc Tryz.prog 176 [.int .i64 n] [] (Ret (.int .i64 (rlen n)) []) := by
 unfold rlen
 refine fn_intro Tryz.func176 (by kernel_rfl) ?_
 repeat' ((conv => whnf); first
  | refine need (by first | rfl | omega) ?_ | (refine wr (fun z hz => ?_); (try rw [Int.tdiv_eq_ediv_of_nonneg (by omega)] at hz); rw [w64 (by omega) (by omega)] at hz; subst hz) | (refine ifs (fun h => ?_) (fun h => ?_) <;> try (exfalso; first | omega | with_reducible first | contradiction | exact h rfl)))
 all_goals (conv => whnf)
 · rw [if_pos (by omega)]; exact fin_nil ⟨rfl, rfl⟩
 · rw [if_neg (by omega), show (1 + ((n : Int) + 32 - 1) / 32 + (n : Int)) = ((1 + (n + 31) / 32 + n : Nat) : Int) by omega]; exact fin_nil ⟨rfl, rfl⟩
def roomJ (x : JrP) (n : Nat) : Bool := decide (0 < rlen n ∧ x.used + rlen n ≤ 80)
theorem chk_size : ∀ {last : Int} {l : List (Int × ByteArray)}, chk last l = true → ∀ p ∈ l, p.2.size = 64
 | _, [], _, p, hp => by cases hp
 | last, q :: t, h, p, hp => by
   rw [chk_cons, Bool.and_eq_true] at h
   have h1 := of_decide_eq_true h.1
   rcases List.mem_cons.1 hp with rfl | hp
   · exact h1.2.2
   · exact chk_size h.2 p hp
theorem chkE_0 {seq : Int} {l : List (Int × ByteArray)} (h : chkE seq l = 0) : l.length ≤ 64 ∧ seqOk seq ∧ chk 160 l = true := by
 unfold chkE at h
 split at h
 · cases h
 · split at h
   · cases h
   · rename_i h1 h2
     split at h
     · rename_i h3; exact ⟨by omega, Classical.not_not.1 h2, h3⟩
     · cases h
theorem recLs_64 {seq : Int} {root : Dg} {l : List (Int × ByteArray)} (h : chkE seq l = 0) : ∀ s ∈ recLs seq root l, s.size = 64 := by
 obtain ⟨h1, h2, h3⟩ := chkE_0 h
 intro s hs
 unfold recLs at hs
 rcases List.mem_cons.1 hs with rfl | hs
 · unfold recN; exact pad64 (by rw [recT_size h2 h1]; omega)
 · rcases List.mem_append.1 hs with hs | hs
   · unfold idxs at hs
     obtain ⟨j, _, rfl⟩ := List.mem_map.1 hs
     unfold ixB
     exact pad64 (row2_le (by rw [List.length_take]; omega))
   · unfold bods at hs
     obtain ⟨p, hp, rfl⟩ := List.mem_map.1 hs
     exact chk_size h3 p hp
attribute [local irreducible] dgV D jC wrF rcC stC regC RgV.lay rgM setRegR writeR rcP recB recLs chkE flatV wrA rlen
theorem jroom (jn rn on : Nat) (x : JrP) (n : Nat) (hn : n ≤ 1000000) (hu : x.used ≤ 100000) : Fnc Tryz.prog 118 [pt jn, .int .i64 n] [jB jn rn on x] (Ret (.bool (roomJ x n)) [jB jn rn on x]) := by
 have hl := rlength n hn
 have hr : roomJ x n = decide (0 < rlen n ∧ x.used + rlen n ≤ 80) := rfl
 refine fn_intro Tryz.func118 (by kernel_rfl) ?_
 repeat' ((conv => whnf); first
  | refine call_val hl ?_ | refine ld1_row jC_u ?_ | (refine wr (fun z hz => ?_); (try rw [Int.tdiv_eq_ediv_of_nonneg (by omega)] at hz); rw [w64 (by omega) (by omega)] at hz; subst hz) | (refine ifs (fun h => ?_) (fun h => ?_) <;> try (exfalso; first | omega | with_reducible first | contradiction | exact h rfl)))
 all_goals (conv => whnf)
 all_goals first
  | (rw [hr, decide_eq_true (by omega)]; exact fin_g (A := [jB jn rn on x]) (.blk takeC .nil) ⟨rfl, rfl⟩) | (rw [hr, decide_eq_false (by omega)]; exact fin_g (A := [jB jn rn on x]) (.blk takeC .nil) ⟨rfl, rfl⟩)
noncomputable def appJ (x : JrP) (root : Dg) (l : List (Int × ByteArray)) (s : Rt) : Rt × Int :=
 if (wrA s.r x.d (1 + 80 * x.area + x.used) (recLs (x.seq + 1) root l)).2 = 0 then (⟨(wrA s.r x.d (1 + 80 * x.area + x.used) (recLs (x.seq + 1) root l)).1, addT s.ts (nextSs x.anchor (recLs (x.seq + 1) root l))⟩, 0)
 else (⟨(wrA s.r x.d (1 + 80 * x.area + x.used) (recLs (x.seq + 1) root l)).1, s.ts⟩, (wrA s.r x.d (1 + 80 * x.area + x.used) (recLs (x.seq + 1) root l)).2)
noncomputable def appX (x : JrP) (root : Dg) (l : List (Int × ByteArray)) (e : Int) : JrP := if e = 0 then addJs x (x.seq + 1) root (recLs (x.seq + 1) root l) else x
theorem jappend (a : RigA) (s : Rt) (o : Orc) (jn g c : Nat) (x : JrP) (root : Dg) (l : List (Int × ByteArray)) (junk : List Value) (T : TypeId) (hts : o.ts = s.ts) (h1 : 1 ≤ l.length) (hck : chkE (x.seq + 1) l = 0) (hrm : roomJ x l.length = true) (hd : x.d ≤ 1) (ha : x.area ≤ 1) (hb : s.ts.length ≤ 1099511627000) :
 Fnc Tryz.prog 122 [pt jn, .agg (rcP (x.seq + 1) root (.slice (some ⟨g, 0, none⟩) l.length c)).toArray] (rgM ⟨a, s.r⟩ ++ (orcM o ++ [jB jn a.rn o.on x, ⟨g, .row (flatV l ++ junk) T⟩]))
  (RetO o (appJ x root l s).1.ts (fun o' => rgM ⟨a, (appJ x root l s).1.r⟩ ++ (orcM o' ++ [jB jn a.rn o.on (appX x root l (appJ x root l s).2), ⟨g, .row (flatV l ++ junk) T⟩])) (.int .i64 (appJ x root l s).2)) := by
 obtain ⟨c1, c2, c3⟩ := chkE_0 hck
 have hll := recLs_len (x.seq + 1) root l
 have hr := of_decide_eq_true hrm
 have hrl : rlen l.length = (recLs (x.seq + 1) root l).length := by rw [hll]; unfold rlen; rw [if_neg (by omega)]
 have hlay := rlayP (x.seq + 1) root g c l junk T h1 hck
 have hroom := jroom jn a.rn o.on x l.length (by omega) (by omega)
 rw [hrm] at hroom
 have hw := fun (n cap : Nat) (jk : List Value) => jwrites a s.r jn o.on n 0 cap x (strV (recLs (x.seq + 1) root l) ++ jk) 9 (recLs (x.seq + 1) root l) (by rw [List.drop_zero, List.take_left' (strV_len _)]) hd ha (by omega)
 have hadd : ∀ (n cap : Nat) (jk : List Value), Fnc Tryz.prog 180 [pt jn, .agg (rcP (x.seq + 1) root (.slice (some ⟨g, 0, none⟩) l.length c)).toArray, .slice (some ⟨n, 0, none⟩) (recLs (x.seq + 1) root l).length cap] (orcM o ++ [jB jn a.rn o.on x, ⟨n, .row (strV (recLs (x.seq + 1) root l) ++ jk) 9⟩]) _ :=
  fun n cap jk => jadds o jn a.rn n 0 cap x (x.seq + 1) root (.slice (some ⟨g, 0, none⟩) l.length c) (strV (recLs (x.seq + 1) root l) ++ jk) 9 (recLs (x.seq + 1) root l) (by rw [List.drop_zero, List.take_left' (strV_len _)]) ⟨by omega, by omega⟩ (recLs_64 hck) (by omega) (by rw [hts]; omega)
 rw [hts] at hadd
 have hwrap : IntKind.i64.wrap (x.seq + 1) = x.seq + 1 := w64 (by unfold seqOk at c2; omega) (by unfold seqOk at c2; omega)
 obtain ⟨R, eR⟩ : ∃ R, R = recLs (x.seq + 1) root l := ⟨_, rfl⟩
 obtain ⟨W, eW⟩ : ∃ W, W = wrA s.r x.d (1 + 80 * x.area + x.used) R := ⟨_, rfl⟩
 have eA : appJ x root l s = if W.2 = 0 then (⟨W.1, addT s.ts (nextSs x.anchor R)⟩, 0) else (⟨W.1, s.ts⟩, W.2) := by rw [eW, eR]; rfl
 have eX : ∀ e, appX x root l e = if e = 0 then addJs x (x.seq + 1) root R else x := fun e => by rw [eR]; rfl
 rw [← eR] at hlay hw hadd
 rw [← eW] at hw
 rw [eA]
 simp only [eX]
 by_cases h0 : W.2 = 0
 all_goals
  refine fn_intro Tryz.func122 (by kernel_rfl) ?_
  repeat' ((conv => whnf); first
   | refine force_of ?_ | refine nw_row (cs' := rcP (x.seq + 1) root (.slice (some ⟨g, 0, none⟩) l.length c)) rfl (fun rn => ?_) | refine ldN_whole rcP_len ?_ | (refine call_g hlay (.blk takeC .nil) (fun e A' hq => ?_); obtain ⟨n, cap, jk, q1, q2⟩ := hq; subst q1; subst q2) | refine draw_any 6 [(0, true), (2, true), (3, true), (4, true), (1, true), (5, false), (6, true), (7, true), (8, true)] [⟨rn, _⟩] rfl (by kernel_rfl) (kept_of (.cons takeC .nil) ?_) | refine kept_of (.cons takeC .nil) ?_ | refine fld1_row (n := rn) rcP_0 ?_ | refine ld1_row (n := jn) jC_s ?_ | refine ld1_row rcP_p ?_ | (refine wr (fun z hz => ?_); rw [hwrap] at hz; subst hz) | refine call_gr hroom (.blk takeC .nil) ?_ | refine call_gr (hw n cap jk) (.grp takeG (.blk takeC (.blk takeC .nil))) ?_ | refine ift h0 ?_ | refine iff' h0 ?_ | refine call_go (hadd n cap jk) (.grp takeG (.blk takeC (.blk takeC .nil))) (fun o1 a1 a2 => ?_) | (refine ifs (fun h => ?_) (fun h => ?_) <;> try (exfalso; first | omega | with_reducible first | contradiction | exact h rfl)))
 all_goals (conv => whnf)
 · simp only [if_pos h0]
   exact fin_g (A := rgM _ ++ (orcM o1 ++ [jB jn a.rn o.on _, ⟨g, _⟩])) (.grp takeG (.grp takeG (.blk takeC (.blk takeC .nil)))) ⟨o1, a1, a2, rfl, rfl⟩
 · simp only [if_neg h0]
   exact fin_g (A := rgM _ ++ (orcM o ++ [jB jn a.rn o.on x, ⟨g, _⟩])) (.grp takeG (.grp takeG (.blk takeC (.blk takeC .nil)))) ⟨o, rfl, hts, rfl, rfl⟩
end Stg
namespace Rec
open Go Ev Sha Aes Orc Node Srt Stg Chn
def recL (seq : Int) (n : Nat) (root : Dg) : List UInt8 := [114, 99] ++ (Be.bb 4 seq.toNat ++ (Be.bb 2 n ++ (dl root ++ List.replicate 24 0)))
theorem put2_ok {n : Int} (h0 : 0 ≤ n) (h1 : n ≤ 65535) : Be.putS n 2 = str (Be.bb 2 n.toNat) := Be.putS_ok (Geom.putE2 h0 h1)
theorem pad_str {s : ByteArray} (h : s.size ≤ 64) : Be.padS s 64 = s ++ str (List.replicate (64 - s.size) 0) := by
 unfold Be.padS Be.padE
 rw [if_pos (by rw [if_neg (by omega), if_neg (by omega)])]
 unfold Be.full
 by_cases h2 : (64 : Int) ≤ s.size
 · rw [if_pos h2, show 64 - s.size = 0 by omega]
   exact ByteArray.append_empty.symm
 · rw [if_neg h2]
   congr 3; omega
theorem recN_L {seq : Int} {n : Nat} {root : Dg} (h : seqOk seq) (hn : n ≤ 64) : recN seq n root = str (recL seq n root) := by
 have hz := recT_size h hn root
 unfold recN
 rw [pad_str (by omega), hz]
 unfold recT recL
 rw [Be.putS_ok (putE4 h), put2_ok (by omega) (by omega), show (⟨#[114, 99]⟩ : ByteArray) = str [114, 99] from rfl]
 simp only [Ev.str_append, List.append_assoc]
 rfl
theorem recL_size (seq : Int) (n : Nat) (root : Dg) : (str (recL seq n root)).size = 64 := by
 rw [Geom.str_size]
 unfold recL
 simp [dl_len]
theorem recL_a (seq : Int) (n : Nat) (root : Dg) : (str (recL seq n root)).extract 0 2 = ⟨#[114, 99]⟩ := by rw [Geom.ext_str]; rfl
theorem recL_b (seq : Int) (n : Nat) (root : Dg) : (str (recL seq n root)).extract 2 6 = str (Be.bb 4 seq.toNat) := by rw [Geom.ext_str]; rfl
theorem recL_c (seq : Int) (n : Nat) (root : Dg) : (str (recL seq n root)).extract 6 8 = str (Be.bb 2 n) := by rw [Geom.ext_str]; rfl
theorem recL_d (seq : Int) (n : Nat) (root : Dg) : (str (recL seq n root)).extract 8 40 = str (dl root) := by rw [Geom.ext_str]; rfl
theorem recL_e (seq : Int) (n : Nat) (root : Dg) : (str (recL seq n root)).extract 40 64 = str (List.replicate 24 0) := by rw [Geom.ext_str]; rfl
theorem get_seq {seq : Int} (h : seqOk seq) : Be.getN (str (Be.bb 4 seq.toNat)) = seq := by
 have := Be.putS_get (a := seq) (k := 4) (by unfold seqOk at h; omega) (putE4 h)
 rw [Be.putS_ok (putE4 h)] at this
 exact this.2
theorem get_two {n : Int} (h0 : 0 ≤ n) (h1 : n ≤ 65535) : Be.getN (str (Be.bb 2 n.toNat)) = n := by
 have := Be.putS_get (a := n) (k := 2) (by omega) (Geom.putE2 h0 h1)
 rw [put2_ok h0 h1] at this
 exact this.2
theorem cat2_cut : ∀ (l : List Int) (k : Nat) (z : List UInt8) (hk : k < l.length), (∀ x ∈ l, 0 ≤ x ∧ x ≤ 65535) → ((Be.cat 2 l ++ z).take (2 * k + 2)).drop (2 * k) = Be.bb 2 l[k].toNat
 | x :: t, 0, z, hk, h => by
   have hx := h x List.mem_cons_self
   unfold Be.cat
   rw [List.flatMap_cons, put2_ok hx.1 hx.2]
   rfl
 | x :: t, k + 1, z, hk, h => by
   have hx := h x List.mem_cons_self
   have ih := cat2_cut t k z (by simpa using hk) fun y hy => h y (List.mem_cons_of_mem _ hy)
   have e : Be.cat 2 (x :: t) = Be.bb 2 x.toNat ++ Be.cat 2 t := by
    unfold Be.cat
    rw [List.flatMap_cons, put2_ok hx.1 hx.2]; rfl
   rw [e, List.append_assoc, show 2 * (k + 1) = 2 + 2 * k by omega, show 2 + 2 * k + 2 = 2 + (2 * k + 2) by omega]
   have hl : (Be.bb 2 x.toNat).length = 2 := rfl
   rw [List.take_append, List.take_of_length_le (by omega), List.drop_append, List.drop_eq_nil_of_le (by omega), hl, show 2 + (2 * k + 2) - 2 = 2 * k + 2 by omega, show 2 + 2 * k - 2 = 2 * k by omega, List.nil_append]
   exact ih
theorem row2_ok {l : List Int} (hl : l.length ≤ 32) (h : ∀ x ∈ l, 0 ≤ x ∧ x ≤ 65535) : Be.rowS 2 l = str (Be.cat 2 l) := by
 have e : Be.rowE 2 l = 0 := by
  unfold Be.rowE
  rw [if_neg (by omega), if_neg (by decide)]
  clear hl
  induction l with
  | nil => rfl
  | cons x t ih =>
    have hx := h x List.mem_cons_self
    unfold Be.fe
    rw [if_pos (Geom.putE2 hx.1 hx.2)]
    exact ih fun y hy => h y (List.mem_cons_of_mem _ hy)
 unfold Be.rowS
 rw [if_pos e]
theorem ixB_size {l : List Int} (hl : l.length ≤ 32) : (ixB l).size = 64 := pad64 (row2_le hl)
theorem ixB_cut {l : List Int} (hl : l.length ≤ 32) (h : ∀ x ∈ l, 0 ≤ x ∧ x ≤ 65535) {k : Nat} (hk : k < l.length) : (ixB l).extract (2 * k) (2 * k + 2) = str (Be.bb 2 l[k].toNat) := by
 have hz := row2_le hl
 unfold ixB
 rw [pad_str hz, row2_ok hl h, Ev.str_append, Geom.ext_str, cat2_cut l k _ hk h]
theorem sequal (n m' o1 o2 c1 c2 : Nat) (cs ds : List Value) (T T' : TypeId) (l : List ByteArray) (h1 : (cs.drop o1).take l.length = strV l) (h2 : (ds.drop o2).take l.length = strV l) (hl : l.length ≤ 1000000) :
 Fnc Tryz.prog 281 [.slice (some ⟨n, o1, none⟩) l.length c1, .slice (some ⟨m', o2, none⟩) l.length c2] [⟨n, .row cs T⟩, ⟨m', .row ds T'⟩] (Ret (.bool true) [⟨n, .row cs T⟩, ⟨m', .row ds T'⟩]) := by
 refine fn_intro Tryz.func281 (by kernel_rfl) ?_
 repeat' ((conv => whnf); first
  | (refine ifs (fun h => ?_) (fun h => ?_) <;> try (exfalso; first | omega | with_reducible first | contradiction | exact h rfl)))
 all_goals (conv => whnf)
 · refine loop_rule [13] (fun vs M m => ∃ k : Nat, vs = [.int .i64 k] ∧ k ≤ l.length ∧ m = l.length - k ∧ M = [⟨n, .row cs T⟩, ⟨m', .row ds T'⟩]) rfl ?_ ?_
   · exact fin_all ⟨_, 0, rfl, by omega, rfl, rfl⟩
   rintro vs junk M' mm ⟨k, rfl, hk, rfl, rfl⟩
   by_cases hk6 : k < l.length
   · have g1 := strV_get h1 hk6
     have g2 := strV_get h2 hk6
     repeat' ((conv => whnf); first
      | refine draw_any 6 [(0, true), (1, true), (2, true), (4, true), (5, true), (6, true), (3, true), (7, false), (8, true)] [⟨n, _⟩] rfl (by kernel_rfl) (kept_of (.cons takeC .nil) ?_) | refine kept_of (.cons takeC .nil) ?_ | refine nv_eq (a := o1 + k) (by omega) ?_ | refine nv_eq (a := o2 + k) (by omega) ?_ | refine fld1_row g1 ?_ | refine ld1_row g2 ?_ | refine need (by first | rfl | omega) ?_ | (refine wr (fun z hz => ?_); (try rw [Int.tdiv_eq_ediv_of_nonneg (by omega)] at hz); rw [w64 (by omega) (by omega)] at hz; subst hz) | (refine ifs (fun h => ?_) (fun h => ?_) <;> try (exfalso; first | omega | with_reducible first | contradiction | exact h rfl)))
     all_goals (conv => whnf)
     all_goals exact ⟨rfl, fin_all ⟨l.length - (k + 1), by omega, k + 1, rfl, by omega, rfl, rfl⟩⟩
   · obtain rfl : k = l.length := by omega
     repeat' ((conv => whnf); first
      | (refine ifs (fun h => ?_) (fun h => ?_) <;> try (exfalso; first | omega | with_reducible first | contradiction | exact h rfl)))
     all_goals (conv => whnf)
     all_goals exact fin_all ⟨rfl, rfl⟩
end Rec
namespace Rec
open Go Ev Sha Aes Orc Node Srt Stg Chn
theorem copy_dl (root : Dg) : ((str (dl root)).data.toList.map fun x => Value.int .u8 (x.toNat : Int)) = dgV root := by
 rw [dgV_u8]; rfl
theorem rcP_s0 {seq z : Int} {root : Dg} {p : Value} : (rcP seq root p).set 0 (.int .i64 z) = rcP z root p := rfl
theorem rcP_sr {seq : Int} {root b : Dg} {p : Value} : (rcP seq root p).take 1 ++ dgV b ++ (rcP seq root p).drop (1 + (dgV b).length) = rcP seq b p := rfl
theorem rcP_sp {seq : Int} {root : Dg} {p q : Value} : (rcP seq root p).set 33 q = rcP seq root q := rfl
section
variable {P : Program} {M : List Blk} {n : Nat} {T : TypeId} {f : Blk → List Blk} {k : List Blk → Prop} {seq : Int} {root : Dg} {p : Value}
theorem st_rc0 {z : Int} [zz : Zip M n (.row (rcP seq root p) T) f] (hk : k (f ⟨n, .row (rcP z root p) T⟩)) : StN P M n 0 [.int .i64 z] k := st_row rfl (by rw [rcP_len]; omega) (by rw [rcP_s0]; exact hk)
theorem st_rcr {b : Dg} [zz : Zip M n (.row (rcP seq root p) T) f] (hk : k (f ⟨n, .row (rcP seq b p) T⟩)) : StN P M n 1 (dgV b) k := st_rowN (dgV_one b) (by rw [rcP_len, dgV_len]; omega) (by rw [rcP_sr]; exact hk)
theorem st_rcp {q : Value} (hq : q.oneCell' = true) [zz : Zip M n (.row (rcP seq root p) T) f] (hk : k (f ⟨n, .row (rcP seq root q) T⟩)) : StN P M n 33 [q] k := st_row hq (by rw [rcP_len]; omega) (by rw [rcP_sp]; exact hk)
end
attribute [local irreducible] dgV rcP recL Be.bb convert Builtin.copy_ Builtin.append_ Instr.makeSlice
theorem rfirst (xn : Nat) (seq : Int) (nn : Nat) (root : Dg) (T : TypeId) (h : seqOk seq) (hn : nn ≤ 64) :
 Fnc Tryz.prog 279 [.string (recN seq nn root), pt xn] [⟨xn, .row (rcP 0 zD (.slice none 0 0)) T⟩] (Ret (.int .i64 nn) [⟨xn, .row (rcP seq root (.slice none 0 0)) T⟩]) := by
 rw [recN_L h hn]
 have hz := recL_size seq nn root
 have ha := recL_a seq nn root
 have hb := recL_b seq nn root
 have hc := recL_c seq nn root
 have hd := recL_d seq nn root
 have he := recL_e seq nn root
 have g1 := Be.get (str (Be.bb 4 seq.toNat))
 rw [get_seq h] at g1
 have g2 := Be.get (str (Be.bb 2 nn))
 have g3 := get_two (n := nn) (by omega) (by omega)
 rw [Int.toNat_natCast] at g3
 rw [g3] at g2
 generalize str (recL seq nn root) = s at *
 refine fn_intro Tryz.func279 (by kernel_rfl) ?_
 repeat' ((conv => whnf); first
  | refine draw_any 1 [(0, true), (1, true), (2, true), (3, true), (4, true), (5, true), (6, true), (7, true), (8, true), (9, true), (10, true), (11, false), (12, false), (13, true), (14, true)] [] rfl (by kernel_rfl) (kept_nil ?_) | refine draw_any 5 [(0, true), (1, true), (2, true), (3, true), (4, true), (5, true), (6, false)] [] rfl (by kernel_rfl) (kept_nil ?_) | refine kept_nil ?_ | (refine sv (fun z hz' => ?_); (try rw [show (s.size : Int).toNat = 64 by omega] at hz'); (try simp only [Int.reduceToNat] at hz'); subst hz') | refine mk_row rfl rfl rfl rfl rfl (by decide) (by decide) (by decide) (fun n => ?_) | refine b2s_row (l := List.replicate 24 0) (junk := []) (by simp [u8s]) rfl rfl rfl (by simp) ?_ | refine nv_eq (a := 1) rfl ?_ | refine nv_eq (a := 32) rfl ?_ | refine st_rc0 ?_ | (rw [hd]; refine copy_str (n := 32) rfl rfl rfl (by rw [Geom.str_size, dl_len]) (by decide) ?_; rw [copy_dl]; refine st_rcr ?_) | (rw [hb]; refine call_val g1 ?_) | (rw [hc]; refine call_val g2 ?_) | refine need (by first | rfl | omega) ?_ | (refine ifs (fun h => ?_) (fun h => ?_) <;> try (exfalso; first | omega | with_reducible first | contradiction | exact h rfl)))
 all_goals (conv => whnf)
 all_goals exact fin_g (A := [⟨xn, _⟩]) (.blk takeC .nil) ⟨rfl, rfl⟩
theorem chk_ok : ∀ {last : Int} {l : List (Int × ByteArray)}, chk last l = true → 0 ≤ last → ∀ p ∈ l, 0 ≤ p.1 ∧ p.1 < 288 ∧ p.2.size = 64
 | _, [], _, _, p, hp => by cases hp
 | last, q :: t, h, h0, p, hp => by
   rw [chk_cons, Bool.and_eq_true] at h
   have h1 := of_decide_eq_true h.1
   rcases List.mem_cons.1 hp with rfl | hp
   · omega
   · exact chk_ok h.2 (by omega) p hp
structure RcOk (seq : Int) (l : List (Int × ByteArray)) : Prop where
 len : l.length ≤ 64
 seq : seqOk seq
 at_ : ∀ x ∈ ats l, 0 ≤ x ∧ x ≤ 65535
 sz : ∀ p ∈ l, p.2.size = 64
theorem rcOk {seq : Int} {l : List (Int × ByteArray)} (h : chkE seq l = 0) : RcOk seq l := by
 obtain ⟨h1, h2, h3⟩ := chkE_0 h
 have h4 := chk_ok h3 (by omega)
 refine ⟨h1, h2, fun x hx => ?_, fun p hp => (h4 p hp).2.2⟩
 obtain ⟨p, hp, rfl⟩ := List.mem_map.1 hx
 have := h4 p hp; omega
abbrev cSs (c bk off len cp : Nat) : Blk := ⟨c, .cells [.slice (some ⟨bk, off, none⟩) len cp] 233⟩
abbrev xB (xn : Nat) (seq : Int) (root : Dg) (p : Value) : Blk := ⟨xn, .row (rcP seq root p) 191⟩
structure Txs (cs : List Value) (off : Nat) (seq : Int) (root : Dg) (l : List (Int × ByteArray)) : Prop where
 all : (cs.drop off).take (recLs seq root l).length = strV (recLs seq root l)
 ix : ∀ i, i < l.length → cs[off + (1 + i / 32)]? = some (.string (ixB (((ats l).drop (32 * (i / 32))).take 32)))
 bd : ∀ i (h : i < l.length), cs[off + (1 + (l.length + 31) / 32 + i)]? = some (.string (l[i]).2)
 hd : cs[off + 0]? = some (.string (recN seq l.length root))
theorem txs {cs : List Value} {off : Nat} {seq : Int} {root : Dg} {l : List (Int × ByteArray)} (h : (cs.drop off).take (recLs seq root l).length = strV (recLs seq root l)) : Txs cs off seq root l := by
 have hl := recLs_len seq root l
 have g := fun k (hk : k < (recLs seq root l).length) => strV_get h hk
 have il := idxs_len (ats l) ((l.length + 31) / 32)
 have bl : (bods l).length = l.length := by unfold bods; simp
 refine ⟨h, fun i hi => ?_, fun i hi => ?_, ?_⟩
 · have hi2 : i / 32 < (l.length + 31) / 32 := by omega
   rw [g (1 + i / 32) (by omega)]
   congr 2
   have e : (recLs seq root l)[1 + i / 32]? = some (ixB (((ats l).drop (32 * (i / 32))).take 32)) := by
    unfold recLs
    rw [Nat.add_comm 1, List.getElem?_cons_succ, List.getElem?_append_left (by omega)]
    unfold idxs
    rw [List.getElem?_map, List.getElem?_range hi2]; rfl
   rw [List.getElem?_eq_getElem (by omega)] at e
   exact Option.some.inj e
 · rw [g (1 + (l.length + 31) / 32 + i) (by omega)]
   congr 2
   have e : (recLs seq root l)[1 + (l.length + 31) / 32 + i]? = some (l[i]).2 := by
    unfold recLs
    rw [show 1 + (l.length + 31) / 32 + i = ((l.length + 31) / 32 + i) + 1 by omega, List.getElem?_cons_succ, List.getElem?_append_right (by omega), il, Nat.add_sub_cancel_left]
    unfold bods
    rw [List.getElem?_map, List.getElem?_eq_getElem hi]; rfl
   rw [List.getElem?_eq_getElem (by omega)] at e
   exact Option.some.inj e
 · rw [g 0 (by omega)]; rfl
theorem ix_at {seq : Int} {l : List (Int × ByteArray)} (h : RcOk seq l) {i : Nat} (hi : i < l.length) :
 (ixB (((ats l).drop (32 * (i / 32))).take 32)).size = 64 ∧ (ixB (((ats l).drop (32 * (i / 32))).take 32)).extract (2 * (i % 32)) (2 * (i % 32) + 2) = str (Be.bb 2 (l[i]).1.toNat) ∧ Be.getN (str (Be.bb 2 (l[i]).1.toNat)) = (l[i]).1 := by
 have hal : (ats l).length = l.length := ats_len l
 have hl : (((ats l).drop (32 * (i / 32))).take 32).length ≤ 32 := by rw [List.length_take]; omega
 have hk : i % 32 < (((ats l).drop (32 * (i / 32))).take 32).length := by rw [List.length_take, List.length_drop]; omega
 have hm : ∀ x ∈ ((ats l).drop (32 * (i / 32))).take 32, 0 ≤ x ∧ x ≤ 65535 := fun x hx => h.at_ x (List.mem_of_mem_drop (List.mem_of_mem_take hx))
 have he : (((ats l).drop (32 * (i / 32))).take 32)[i % 32] = (l[i]).1 := by
  rw [List.getElem_take, List.getElem_drop]
  unfold ats
  rw [List.getElem_map]
  congr 2; omega
 refine ⟨ixB_size hl, ?_, ?_⟩
 · rw [ixB_cut hl hm hk, he]
 · have := h.at_ (l[i]).1 (by unfold ats; exact List.mem_map_of_mem (List.getElem_mem hi))
   exact get_two this.1 this.2
attribute [local irreducible] ixB flatV
theorem rput (cl xn cb bk off len cp : Nat) (cs : List Value) (seq seq' : Int) (root root' : Dg) (l : List (Int × ByteArray)) (S : Own) (i : Nat) (hi : i < l.length) (h : RcOk seq l) (ht : Txs cs off seq root l) (hS : S.ok 2 i (flatV (l.take i))) (hlen : 1 + (l.length + 31) / 32 + l.length ≤ len) (hlc : len ≤ cp) (hb : len ≤ 1000000) :
 Fnc Tryz.prog 280 [.int .i64 i, pt cl, pt xn, pt cb] ([cSs cl bk off len cp, xB xn seq' root' (S.val i), ⟨cb, .cells [.int .i64 (1 + (l.length + 31) / 32 : Nat)] 3⟩, ⟨bk, .row cs 9⟩] ++ S.blk 117 (flatV (l.take i)))
  (fun e A => ∃ S' : Own, S'.ok 2 (i + 1) (flatV (l.take (i + 1))) ∧ e = .returned (.bool true) ∧ A = [cSs cl bk off len cp, xB xn seq' root' (S'.val (i + 1)), ⟨cb, .cells [.int .i64 (1 + (l.length + 31) / 32 : Nat)] 3⟩, ⟨bk, .row cs 9⟩] ++ S'.blk 117 (flatV (l.take (i + 1)))) := by
 obtain ⟨x1, x2, x3⟩ := ix_at h hi
 have g1 := ht.ix i hi
 have g2 := ht.bd i hi
 have g3 := Be.get (str (Be.bb 2 (l[i]).1.toNat))
 rw [x3] at g3
 have h64 := h.len
 generalize ixB (((ats l).drop (32 * (i / 32))).take 32) = s at *
 refine fn_intro Tryz.func280 (by kernel_rfl) ?_
 have hft : flatV (l.take (i + 1)) = flatV (l.take i) ++ encP l[i] := by rw [List.take_add_one, List.getElem?_eq_getElem hi, ← flatV_app]; rfl
 repeat' ((conv => whnf); first
  | refine nv_eq (a := off + (1 + i / 32)) (by omega) ?_ | refine ld1_row (n := bk) g1 ?_ | (refine sv (fun z hz => ?_); rw [show (2 * ((i : Int) % 32)).toNat = 2 * (i % 32) by omega, show (2 * ((i : Int) % 32) + 2).toNat = 2 * (i % 32) + 2 by omega, x2] at hz; subst hz) | refine call_val g3 ?_ | refine draw_tree 5 (.take 0 (.take 2 (.take 5 (.take 3 (.take 4 (.take 6 (.take 7 (.take 8 (.take 9 (.two 1 10 (.only 10 (.only 11 (.take 12 (.only 13 .nil)))) (.only 1 (.only 11 (.take 12 (.only 13 .nil)))))))))))))) [⟨cl, _⟩, ⟨cb, _⟩, ⟨bk, _⟩] rfl (by kernel_rfl) (kept_of (.cons takeC (.cons takeC (.cons takeC .nil))) ?_) | refine kept_of (.cons takeC (.cons takeC (.cons takeC .nil))) ?_ | refine And.intro ?_ ?_ | refine fld1_row g2 ?_ | refine fld1 ?_ | refine ld1_row (n := xn) rcP_p ?_ | refine nv_eq (a := off + (1 + (l.length + 31) / 32 + i)) (by omega) ?_ | (refine app_wide (S := S) (n := i) (m := 1) (sz := 2) (e := 117) (xs := flatV (l.take i)) (news := encP l[i]) rfl rfl rfl rfl rfl hS rfl (by omega) (fun u hu => by simp [encP] at hu; rcases hu with rfl | rfl <;> rfl) (by show (i + 1) * 24 ≤ _; omega) (by omega) (cells_lit0) (fun S' hS' => ?_); rw [← hft] at hS' ⊢) | refine st_rcp rfl ?_ | refine ld1_lit ?_ | refine nw (fun n => ?_) | refine bld ?_ | refine need (by first | rfl | omega) ?_ | (refine wr (fun z hz => ?_); (try rw [Int.tdiv_eq_ediv_of_nonneg (by omega)] at hz); rw [w64 (by omega) (by omega)] at hz; subst hz) | (refine zv (fun z hz => ?_); (try rw [Int.tmod_eq_emod_of_nonneg (by omega)] at hz); subst hz) | (refine ifs (fun h => ?_) (fun h => ?_) <;> try (exfalso; first | omega | with_reducible first | contradiction | exact h rfl)))
 all_goals (conv => whnf)
 all_goals exact fin_g (A := [cSs cl bk off len cp, xB xn seq' root' _, ⟨cb, _⟩, ⟨bk, _⟩] ++ S'.blk 117 (flatV (l.take (i + 1)))) (.blk takeC (.blk takeC (.blk takeC (.blk takeC (.one takeE))))) ⟨S', hS', rfl, rfl⟩
end Rec
namespace Rec
open Go Ev Sha Aes Orc Node Srt Stg Chn
theorem Fnc_swap {P : Program} {f : FuncId} {args : List Value} {A : List Blk} {Q Q' : Ending → List Blk → Prop} (h : Fnc P f args A Q) (hq : ∀ e B, Q e B → ∃ L n cs T R, B = L ++ ⟨n, .cells cs T⟩ :: R ∧ Q' e (L ++ ⟨n, .row cs T⟩ :: R)) : Fnc P f args A Q' := by
 have := h.out
 delta Fnc
 refine ⟨this.1, fun w hm => (this.2 w hm).mono fun e w' ⟨B, s1, hq1⟩ => ?_⟩
 obtain ⟨L, n, cs, T, R, rfl, h2⟩ := hq e B hq1
 exact ⟨_, St_swap (o' := .row cs T) s1 rfl (fun h => h), h2⟩
theorem rlayO (seq : Int) (root : Dg) (l : List (Int × ByteArray)) (S : Own) (hS : S.ok 2 l.length (flatV l)) (h0 : l = [] → S = .nil) (hck : chkE seq l = 0) :
 Fnc Tryz.prog 178 [.agg (rcP seq root (S.val l.length)).toArray] (S.blk 117 (flatV l))
  (fun e A => ∃ (n cap : Nat) (jk : List Value), e = .returned (.tuple #[.slice (some ⟨n, 0, none⟩) (recLs seq root l).length cap, .int .i64 0]) ∧ A = S.blk 117 (flatV l) ++ [⟨n, .row (strV (recLs seq root l) ++ jk) 9⟩]) := by
 by_cases hl : l = []
 · have hs := h0 hl
   subst hl; subst hs
   refine Fnc_swap (rlay seq root (rcOk hck).seq) ?_
   rintro e B ⟨n, h1, h2⟩
   subst h1; subst h2
   exact ⟨[], n, _, _, [], rfl, n, 1, [], rfl, by rw [List.append_nil]; rfl⟩
 · cases S with
   | nil => exact absurd (List.length_eq_zero_iff.1 hS.2) hl
   | at_ g c junk =>
     refine Ev.Fnc_mono (rlayP seq root g c l junk 117 (List.length_pos_iff.2 hl) hck) ?_
     rintro e B ⟨n, cap, jk, h1, h2⟩
     exact ⟨n, cap, jk, h1, h2⟩
theorem rcP_z0 : rcP 0 zD (.slice none 0 0) = Value.int .i64 0 :: (List.replicate 32 (.int .u8 0) ++ [.slice none 0 0]) := rfl
theorem rcP_one (seq : Int) (root : Dg) (p : Option Addr) (n c : Nat) : ∀ u ∈ rcP seq root (.slice p n c), u.oneCell' = true := by
 intro u hu
 unfold rcP at hu
 rcases List.mem_cons.1 hu with rfl | hu
 · rfl
 · rcases List.mem_append.1 hu with hu | hu
   · exact dgV_one root u hu
   · rw [List.mem_singleton.1 hu]; rfl
theorem own_nil {l : List (Int × ByteArray)} : Own.ok .nil 2 0 (flatV (l.take 0)) := ⟨by rw [flatV_len]; simp, rfl⟩
attribute [local irreducible] dgV rcP recL Be.bb convert Builtin.copy_ Builtin.append_ Instr.makeSlice flatV recN recLs
theorem rparse (bk off len cp : Nat) (cs : List Value) (seq : Int) (root : Dg) (l : List (Int × ByteArray)) (hck : chkE seq l = 0) (hcs : (cs.drop off).take (recLs seq root l).length = strV (recLs seq root l)) (hlen : (recLs seq root l).length ≤ len) (hlc : len ≤ cp) (hb : len ≤ 1000000) :
 Fnc Tryz.prog 265 [.slice (some ⟨bk, off, none⟩) len cp] [⟨bk, .row cs 9⟩]
  (fun e A => ∃ S : Own, S.ok 2 l.length (flatV l) ∧ (l = [] → S = .nil) ∧ e = .returned (.tuple #[.agg (rcP seq root (S.val l.length)).toArray, .int .i64 (recLs seq root l).length, .int .i64 0]) ∧ A = S.blk 117 (flatV l) ++ [⟨bk, .row cs 9⟩]) := by
 have hR := rcOk hck
 have ht := txs hcs
 have hl := recLs_len seq root l
 have h64 := hR.len
 have hr : rlen l.length = 1 + (l.length + 31) / 32 + l.length := by unfold rlen; rw [if_neg (by omega)]
 have c1 := fun xn T => rfirst xn seq l.length root T hR.seq h64
 have c2 := rlength l.length (by omega)
 rw [hr] at c2
 refine fn_intro Tryz.func265 (by kernel_rfl) ?_
 repeat' ((conv => whnf); first
  | refine nw_row (cs' := rcP 0 zD (.slice none 0 0)) rcP_z0 (fun xn => ?_) | refine nv_eq (a := off + 0) (by omega) ?_ | refine ld1_row (n := bk) ht.hd ?_ | refine call_gr (c1 _ _) (.blk takeC .nil) ?_ | refine call_val c2 ?_ | refine ld1_lit ?_ | refine nw (fun n => ?_) | refine st_lit rfl ?_ | refine need (by first | rfl | omega) ?_ | (refine wr (fun z hz => ?_); (try rw [Int.tdiv_eq_ediv_of_nonneg (by omega)] at hz); rw [w64 (by omega) (by omega)] at hz; subst hz) | (refine ifs (fun h => ?_) (fun h => ?_) <;> try (exfalso; first | omega | with_reducible first | contradiction | exact h rfl)))
 all_goals (conv => whnf)
 rename_i cl rv _ _
 have eb : ((1 + (l.length + 31) / 32 + l.length : Nat) : Int) - (l.length : Int) = ((1 + (l.length + 31) / 32 : Nat) : Int) := by omega
 rw [eb]
 have hp := fun (i : Nat) (S : Own) (hi : i < l.length) (hS : S.ok 2 i (flatV (l.take i))) => rput cl xn n bk off len cp cs seq seq root root l S i hi hR ht hS (by omega) hlc hb
 refine loop_rule [36] (fun vs M m => ∃ (k : Nat) (S : Own), vs = [.int .i64 k] ∧ k ≤ l.length ∧ m = l.length - k ∧ S.ok 2 k (flatV (l.take k)) ∧ (k = 0 → S = .nil) ∧
  M = [⟨rv, .row (rcP 0 zD (.slice none 0 0)) 191⟩, cSs cl bk off len cp, xB xn seq root (S.val k), ⟨n, .cells [.int .i64 (1 + (l.length + 31) / 32 : Nat)] 3⟩, ⟨bk, .row cs 9⟩] ++ S.blk 117 (flatV (l.take k))) rfl ?_ ?_
 · exact fin_g (A := [⟨rv, _⟩, cSs cl bk off len cp, xB xn seq root (.slice none 0 0), ⟨n, _⟩, ⟨bk, _⟩]) (.blk takeC (.blk takeC (.blk takeC (.blk takeC (.blk takeC .nil))))) ⟨_, 0, .nil, rfl, by omega, rfl, own_nil, fun _ => rfl, (List.append_nil _).symm⟩
 rintro vs junk M' m ⟨k, S, rfl, hk, rfl, hS, h0, rfl⟩
 by_cases hk6 : k < l.length
 · have hp := hp k S hk6 hS
   repeat' ((conv => whnf); first
    | (refine call_g hp (.blk takeC (.blk takeC (.blk takeC (.blk takeC (.one takeE))))) (fun e A' hq => ?_); obtain ⟨S', q1, q2, q3⟩ := hq; subst q2; subst q3) | (refine wr (fun z hz => ?_); (try rw [Int.tdiv_eq_ediv_of_nonneg (by omega)] at hz); rw [w64 (by omega) (by omega)] at hz; subst hz) | (refine ifs (fun h => ?_) (fun h => ?_) <;> try (exfalso; first | omega | with_reducible first | contradiction | exact h rfl)))
   all_goals (conv => whnf)
   all_goals exact ⟨rfl, fin_g (A := ⟨rv, _⟩ :: cSs cl bk off len cp :: xB xn seq root _ :: ⟨n, _⟩ :: ⟨bk, _⟩ :: S'.blk 117 (flatV (l.take (k + 1)))) (.blk takeC (.blk takeC (.blk takeC (.blk takeC (.blk takeC (.one takeE)))))) ⟨l.length - (k + 1), by omega, k + 1, S', rfl, by omega, rfl, q1, fun e => by omega, rfl⟩⟩
 · obtain rfl : k = l.length := by omega
   rw [List.take_length] at hS ⊢
   have hL := rlayO seq root l S hS (fun e => h0 (by rw [e]; rfl)) hck
   have hE := fun (ln lc : Nat) (jk : List Value) => sequal ln bk 0 off lc cp (strV (recLs seq root l) ++ jk) cs 9 9 (recLs seq root l) (by rw [List.drop_zero, List.take_append_of_le_length (by rw [strV_len]; omega), List.take_of_length_le (by rw [strV_len]; omega)]) hcs (by omega)
   rw [hl] at hL hE ⊢
   repeat' ((conv => whnf); first
    | refine nv_eq (a := off) (by rw [show Int.toNat 0 = 0 from rfl]; split <;> omega) ?_ | refine nv_eq (a := 1 + (l.length + 31) / 32 + l.length) (by rw [Int.toNat_natCast]; exact Nat.sub_zero _) ?_ | refine nv_eq (a := cp) (Nat.sub_zero _) ?_ | refine ldN_whole rcP_len ?_ | refine force_of ?_ | (refine call_g hL (.one takeE) (fun e A' hq => ?_); obtain ⟨ln, lc, jk, q1, q2⟩ := hq; subst q1; subst q2) | refine call_gr (hE _ _ _) (.blk takeC (.blk takeC .nil)) ?_ | (refine need ?_ ?_; exact rcP_len) | refine st_whole (n := rv) (rcP_one _ _ _ _ _) (by rw [rcP_len, rcP_len]) ?_ | refine ld1_lit ?_ | refine need (by first | rfl | omega) ?_ | (refine ifs (fun h => ?_) (fun h => ?_) <;> try (exfalso; first | omega | with_reducible first | contradiction | exact h rfl)))
   all_goals (conv => whnf)
   all_goals exact fin_g (A := S.blk 117 (flatV l) ++ [⟨bk, _⟩]) (.grp takeE (.blk takeC .nil)) ⟨S, hS, fun e => h0 (by rw [e]; rfl), rfl, rfl⟩
end Rec
namespace Stg
open Go Ev Sha Aes Orc Node Rec Chn Jrn Cau Sto Srt
open Rig (Fnc_takeR RigP Rg rgM readR writeR flushR setRegR z64 app_of tick comes write_ flush_ setreg_ mayE RigA)
def BgQ (a : RigA) (o : Orc) (q : Rt × Int) (sn xn : Nat) (x : StP) (y : RgV) (d : Nat) (area : Int) (J : JrP) : Ending → List Blk → Prop := fun e M => ∃ o' : Orc, o'.on = o.on ∧ o'.ts = q.1.ts ∧
 ((q.2 = 0 ∧ ∃ jn : Nat, e = .returned (.tuple #[]) ∧ M = rgM ⟨a, q.1.r⟩ ++ (orcM o' ++ [jB jn a.rn o.on J, stB sn (x.setJ d (some ⟨jn, 0, none⟩)), rgB xn (y.set d J.anchor area 1)])) ∨
  (q.2 ≠ 0 ∧ e = .panicked (pe q.2) ∧ M = rgM ⟨a, q.1.r⟩ ++ (orcM o' ++ [stB sn x, rgB xn y])))
attribute [local irreducible] dgV D jC wrF rcC stC regC RgV.lay rgM setRegR writeR rcP recB begJ beginG
theorem beging (a : RigA) (s : Rt) (o : Orc) (sn xn : Nat) (x : StP) (y : RgV) (d area : Nat) (seq : Int) (root : Dg) (hrn : x.rn = a.rn) (hon : x.on = o.on) (hts : o.ts = s.ts) (hd : d ≤ 1) (ha : area ≤ 1) (hs : x.super.size = 64) (hq : seqOk seq) (hb : s.ts.length ≤ 1099511627000) :
 Fnc Tryz.prog 161 [pt sn, pt xn, .int .i64 d, .int .i64 area, .agg (rcC seq root).toArray] (rgM ⟨a, s.r⟩ ++ (orcM o ++ [stB sn x, rgB xn y]))
  (BgQ a o (beginG x.super d area seq root s) sn xn x y d area (begJ x.super d area seq root)) := by
 have hj := jbeging a s o x.super d area seq root hts hd ha hs hq hb
 have eu : (begJ x.super d area seq root).used = 1 := by unfold begJ addJs jr0; rfl
 obtain ⟨J, eJ⟩ : ∃ J, J = begJ x.super d area seq root := ⟨_, rfl⟩
 obtain ⟨q, eq⟩ : ∃ q, q = beginG x.super d area seq root s := ⟨_, rfl⟩
 rw [← eJ] at hj eu ⊢
 rw [← eq] at hj ⊢
 have h1 := fun jn => janchor jn x.rn x.on J
 have h2 := fun jn => jused jn x.rn x.on J
 rw [eu] at h2
 unfold BegQ at hj
 unfold BgQ
 rw [← hrn, ← hon] at hj ⊢
 have hdd : d = 0 ∨ d = 1 := by omega
 rcases hdd with rfl | rfl
 all_goals
  refine fn_intro Tryz.func161 (by kernel_rfl) ?_
  repeat' ((conv => whnf); first
   | refine force_of ?_ | refine nw_row (cs' := rcC seq root) rfl (fun n => ?_) | refine draw_any 1 [(0, true), (1, true), (2, true), (4, true), (5, true), (6, true), (8, true), (9, true), (10, true), (12, true), (13, true), (3, true), (7, true), (11, true), (14, true), (15, false), (16, false), (17, true), (18, true), (19, true), (20, true), (21, true)] [⟨sn, _⟩] rfl (by kernel_rfl) (kept_of (.cons takeC .nil) ?_) | refine kept_of (.cons takeC .nil) ?_ | refine fld1_row (n := sn) stC_0 ?_ | refine fld1_row (n := sn) stC_1 ?_ | refine fld1_row (n := sn) stC_5 ?_ | refine ldN_whole (n := n) (rcC_len _ _) ?_ | (refine call_g hj (.grp takeG (.one takeG)) (fun e A' hq => ?_); obtain ⟨o1, a1, a2, ⟨q0, jn, a3, a4⟩ | ⟨q0, a3, a4⟩⟩ := hq <;> subst a3 <;> subst a4) | (rw [q0]; refine call_val must_ok ?_) | (refine call_g (must_no _ q0) .nil (fun e A' hq => ?_); obtain ⟨p1, p2⟩ := hq; subst p1; subst p2) | refine nv_eq (a := 6) rfl ?_ | refine nv_eq (a := 8) rfl ?_ | refine st_6 ?_ | refine st_8 ?_ | refine draw_any 4 [(0, true), (1, true), (2, true), (3, true), (4, true), (5, true), (6, true), (8, true), (9, true), (11, true), (12, true), (15, true), (16, true), (19, true), (20, true), (7, false), (10, false), (13, true), (14, false), (17, true), (18, false), (21, true), (22, false)] [] rfl (by kernel_rfl) ?_ | refine kept_nil ?_ | refine call_gr (h1 jn) (.blk takeC .nil) ?_ | refine call_gr (h2 jn) (.blk takeC .nil) ?_ | refine nv_eq (a := 0) rfl ?_ | refine nv_eq (a := 32) rfl ?_ | refine nv_eq (a := 66) rfl ?_ | refine nv_eq (a := 67) rfl ?_ | refine nv_eq (a := 68) rfl ?_ | refine nv_eq (a := 69) rfl ?_ | (refine need ?_ ?_; exact dgV_len _) | refine st_ra0 ?_ | refine st_ra1 ?_ | refine st_r66 ?_ | refine st_r67 ?_ | refine st_r68 ?_ | refine st_r69 ?_ | refine bld ?_ | refine need (by first | rfl | omega) ?_)
  all_goals (conv => whnf)
  all_goals first
   | exact fin_g (A := rgM _ ++ (orcM o1 ++ [jB jn x.rn x.on J, stB sn _, rgB xn _])) (.grp takeG (.grp takeG (.blk takeC (.blk takeC (.blk takeC .nil))))) ⟨o1, a1, a2, .inl ⟨by first | rfl | exact q0, jn, rfl, rfl⟩⟩ | exact fin_g (A := rgM _ ++ (orcM o1 ++ [stB sn x, rgB xn y])) (.grp takeG (.grp takeG (.blk takeC (.blk takeC .nil)))) ⟨o1, a1, a2, .inr ⟨q0, rfl, rfl⟩⟩
attribute [local irreducible] bare BareT
end Stg
namespace Stg
open Go Ev Sha Aes Orc Node Rec Chn Jrn Cau Sto Srt
open Rig (Fnc_takeR RigP Rg rgM readR writeR flushR setRegR z64 app_of tick comes write_ flush_ setreg_ mayE RigA)
attribute [local irreducible] dgV D jC wrF rcC stC regC RgV.lay rgM setRegR writeR rcP recB begJ beginG bare BareT
end Stg
namespace Stg
open Go Ev Sha Aes Orc Node Rec Chn Jrn Cau Sto Srt
open Rig (Fnc_takeR RigP Rg rgM readR writeR flushR setRegR z64 app_of tick comes write_ flush_ setreg_ mayE RigA)
structure Ax where
 s : Rt
 j0 : JrP
 j1 : JrP
 y : RgV
noncomputable def flA (l : List Nat) (q : Ax) : Ax × Int := (⟨⟨(lp (flG l) l.length 0 q.s.r).1, q.s.ts⟩, q.j0, q.j1, q.y⟩, (lp (flG l) l.length 0 q.s.r).2)
noncomputable def ar0 (super : ByteArray) (q : Ax) : Ax × Int :=
 if (beginG super 0 (1 - q.j0.area) q.j0.seq q.j0.root q.s).2 = 0 then (⟨(beginG super 0 (1 - q.j0.area) q.j0.seq q.j0.root q.s).1, begJ super 0 (1 - q.j0.area) q.j0.seq q.j0.root, q.j1, q.y.set 0 (begJ super 0 (1 - q.j0.area) q.j0.seq q.j0.root).anchor (1 - q.j0.area : Nat) 1⟩, 0)
 else (⟨(beginG super 0 (1 - q.j0.area) q.j0.seq q.j0.root q.s).1, q.j0, q.j1, q.y⟩, (beginG super 0 (1 - q.j0.area) q.j0.seq q.j0.root q.s).2)
noncomputable def ar1 (super : ByteArray) (q : Ax) : Ax × Int :=
 if (beginG super 1 (1 - q.j1.area) q.j1.seq q.j1.root q.s).2 = 0 then (⟨(beginG super 1 (1 - q.j1.area) q.j1.seq q.j1.root q.s).1, q.j0, begJ super 1 (1 - q.j1.area) q.j1.seq q.j1.root, q.y.set 1 (begJ super 1 (1 - q.j1.area) q.j1.seq q.j1.root).anchor (1 - q.j1.area : Nat) 1⟩, 0)
 else (⟨(beginG super 1 (1 - q.j1.area) q.j1.seq q.j1.root q.s).1, q.j0, q.j1, q.y⟩, (beginG super 1 (1 - q.j1.area) q.j1.seq q.j1.root q.s).2)
noncomputable def stA (q : Ax) : Ax × Int := (⟨⟨(setG q.s.r q.y).1, q.s.ts⟩, q.j0, q.j1, q.y⟩, (setG q.s.r q.y).2)
noncomputable def areas2G (super : ByteArray) (q : Ax) : Ax × Int := bd (τ := Ax) (flA [0, 1] q) fun q => bd (τ := Ax) (ar0 super q) fun q => bd (τ := Ax) (ar1 super q) fun q => bd (τ := Ax) (flA [0, 1] q) stA
theorem bd_pok {σ τ : Type} {s : σ} {c : Int} {g : σ → σ × Int} (h : c = 0) : bd (τ := τ) (s, c) g = g s := if_pos h
theorem bd_pno {σ τ : Type} {s : σ} {c : Int} {g : σ → σ × Int} (h : c ≠ 0) : bd (τ := τ) (s, c) g = (s, c) := if_neg h
theorem bd_no {σ τ : Type} {x : σ × Int} {g : σ → σ × Int} (h : x.2 ≠ 0) : bd (τ := τ) x g = x := if_neg h
abbrev lB (ln : Nat) (l : List Nat) : Blk := ⟨ln, .row (l.map fun d => .int .i64 (d : Nat)) 3⟩
def StP.wj (x : StP) (jn : Nat) (y : RgV) : StP := { x with j0 := some ⟨jn, 0, none⟩, is := y }
def StP.wjj (x : StP) (jn jm : Nat) (y : RgV) : StP := { x with j0 := some ⟨jn, 0, none⟩, j1 := some ⟨jm, 0, none⟩, is := y }
theorem rzs_e (seq : Int) (b : Dg) : (Value.int .i64 seq :: (List.replicate 32 (.int .u8 0) ++ [.slice none 0 0])).take 1 ++ dgV b ++ (Value.int .i64 seq :: (List.replicate 32 (.int .u8 0) ++ [.slice none 0 0])).drop (1 + 32) = rcC seq b := rfl
attribute [local irreducible] dgV D jC wrF rcC stC regC RgV.lay rgM setRegR writeR rcP recB begJ beginG bare BareT setG
theorem beginG_len (super : ByteArray) (d area : Nat) (seq : Int) (root : Dg) (s : Rt) : (beginG super d area seq root s).1.ts.length ≤ s.ts.length + 2 := by
 unfold beginG
 have h1 := addT_len s.ts (startS super d area)
 have h2 := addT_len (addT s.ts (startS super d area)) (nextSs (D (startS super d area)) [recB seq root])
 split
 · show (addT (addT s.ts (startS super d area)) (nextSs (D (startS super d area)) [recB seq root])).length ≤ _; omega
 · show (addT s.ts (startS super d area)).length ≤ _; omega
theorem areas2 (a : RigA) (q : Ax) (o : Orc) (sn ln c jn0 jn1 : Nat) (x : StP) (hrn : x.rn = a.rn) (hon : x.on = o.on) (hts : o.ts = q.s.ts) (hj0 : x.j0 = some ⟨jn0, 0, none⟩) (hj1 : x.j1 = some ⟨jn1, 0, none⟩) (hs : x.super.size = 64) (ha0 : q.j0.area ≤ 1) (hq0 : seqOk q.j0.seq) (ha1 : q.j1.area ≤ 1) (hq1 : seqOk q.j1.seq) (hb : q.s.ts.length ≤ 1099511600000) :
 Fnc Tryz.prog 121 [pt sn, .agg (regC q.y).toArray, .slice (some ⟨ln, 0, none⟩) 2 c] (rgM ⟨a, q.s.r⟩ ++ (orcM o ++ [stB sn x, jB jn0 a.rn o.on q.j0, jB jn1 a.rn o.on q.j1, lB ln [0, 1]]))
  (fun e M => ∃ (o' : Orc) (jn jm : Nat), o'.on = o.on ∧ o'.ts = (areas2G x.super q).1.s.ts ∧ Pe (areas2G x.super q).2 e ∧
    M = rgM ⟨a, (areas2G x.super q).1.s.r⟩ ++ (orcM o' ++ [stB sn (StP.wjj x jn jm (if (areas2G x.super q).2 = 0 then (areas2G x.super q).1.y else x.is)), jB jn a.rn o.on (areas2G x.super q).1.j0, jB jm a.rn o.on (areas2G x.super q).1.j1])) := by
 obtain ⟨s, J0, J1, y⟩ := q
 dsimp only at *
 have hx0 : x = StP.wjj x jn0 jn1 x.is := by unfold StP.wjj; rw [← hj0, ← hj1]
 have g1 := flushg a s.r sn ln c x [0, 1] hrn (by decide)
 obtain ⟨F, eF⟩ : ∃ F, F = lp (flG [0, 1]) [0, 1].length 0 s.r := ⟨_, rfl⟩
 have g2 := fun xn => beging a ⟨F.1, s.ts⟩ o sn xn x y 0 (1 - J0.area) J0.seq J0.root hrn hon hts (by omega) (by omega) hs hq0 (by show s.ts.length ≤ _; omega)
 have hk1 := jarea jn0 a.rn o.on J0
 have hk2 := jseq jn0 a.rn o.on J0
 have hk3 := jroot jn0 a.rn o.on J0
 have ea : (1 : Int) - (J0.area : Int) = ((1 - J0.area : Nat) : Int) := by omega
 have ea1 : (1 : Int) - (J1.area : Int) = ((1 - J1.area : Nat) : Int) := by omega
 have hBl := beginG_len x.super 0 (1 - J0.area) J0.seq J0.root ⟨F.1, s.ts⟩
 obtain ⟨B, eB⟩ : ∃ B, B = beginG x.super 0 (1 - J0.area) J0.seq J0.root ⟨F.1, s.ts⟩ := ⟨_, rfl⟩
 obtain ⟨K, eK⟩ : ∃ K, K = begJ x.super 0 (1 - J0.area) J0.seq J0.root := ⟨_, rfl⟩
 unfold BgQ at g2
 rw [← eF] at g1
 rw [← eB, ← eK] at g2
 rw [← eB] at hBl
 dsimp only at hBl
 have g5 := fun (xn jn : Nat) (o1 : Orc) (e1 : o1.on = o.on) (e2 : o1.ts = B.1.ts) => beging a B.1 o1 sn xn (x.setJ 0 (some ⟨jn, 0, none⟩)) (y.set 0 K.anchor (1 - J0.area : Nat) 1) 1 (1 - J1.area) J1.seq J1.root hrn (hon.trans e1.symm) e2 (by omega) (by omega) hs hq1 (by omega)
 have hm1 := fun (o1 : Orc) (e1 : o1.on = o.on) => jarea jn1 a.rn o.on J1
 have hm2 := jseq jn1 a.rn o.on J1
 have hm3 := jroot jn1 a.rn o.on J1
 obtain ⟨E, eE⟩ : ∃ E, E = beginG x.super 1 (1 - J1.area) J1.seq J1.root B.1 := ⟨_, rfl⟩
 obtain ⟨N, eN⟩ : ∃ N, N = begJ x.super 1 (1 - J1.area) J1.seq J1.root := ⟨_, rfl⟩
 unfold BgQ at g5
 have esup : ∀ jn, (x.setJ 0 (some ⟨jn, 0, none⟩)).super = x.super := fun jn => rfl
 simp only [esup] at g5
 rw [← eE, ← eN] at g5
 have g3 := fun jn jm => flushg a E.1.r sn ln c ((x.setJ 0 (some ⟨jn, 0, none⟩)).setJ 1 (some ⟨jm, 0, none⟩)) [0, 1] hrn (by decide)
 obtain ⟨G, eG⟩ : ∃ G, G = lp (flG [0, 1]) [0, 1].length 0 E.1.r := ⟨_, rfl⟩
 rw [← eG] at g3
 have g4 := fun jn jm => setg a G.1 sn ((x.setJ 0 (some ⟨jn, 0, none⟩)).setJ 1 (some ⟨jm, 0, none⟩)) ((y.set 0 K.anchor (1 - J0.area : Nat) 1).set 1 N.anchor (1 - J1.area : Nat) 1) hrn
 have hfl : flA [0, 1] ⟨s, J0, J1, y⟩ = (⟨⟨F.1, s.ts⟩, J0, J1, y⟩, F.2) := by rw [eF]; rfl
 have har : ar0 x.super ⟨⟨F.1, s.ts⟩, J0, J1, y⟩ = if B.2 = 0 then (⟨B.1, K, J1, (y.set 0 K.anchor (1 - J0.area : Nat) 1)⟩, 0) else (⟨B.1, J0, J1, y⟩, B.2) := by rw [eB, eK]; rfl
 have har1 : ar1 x.super ⟨B.1, K, J1, (y.set 0 K.anchor (1 - J0.area : Nat) 1)⟩ = if E.2 = 0 then (⟨E.1, K, N, ((y.set 0 K.anchor (1 - J0.area : Nat) 1).set 1 N.anchor (1 - J1.area : Nat) 1)⟩, 0) else (⟨E.1, K, J1, (y.set 0 K.anchor (1 - J0.area : Nat) 1)⟩, E.2) := by rw [eE, eN]; rfl
 have hfl2 : ∀ y', flA [0, 1] ⟨E.1, K, N, y'⟩ = (⟨⟨G.1, E.1.ts⟩, K, N, y'⟩, G.2) := fun y' => by rw [eG]; rfl
 refine fn_intro Tryz.func121 (by kernel_rfl) ?_
 repeat' ((conv => whnf); first
  | refine force_of ?_ | refine nw_row (cs' := regC y) rfl (fun xn => ?_) | (refine call_g g1 (.grp takeG (.blk takeC (.blk takeC .nil))) (fun e A' hq => ?_); obtain ⟨⟨p1, p2⟩ | ⟨p1, p2⟩, p3⟩ := hq <;> subst p2 <;> subst p3) | refine loop_n 3 ?_ | refine nv_eq (a := 0) rfl ?_ | refine nv_eq (a := 6) rfl ?_ | refine nv_eq (a := 1) rfl ?_ | refine nv_eq (a := 8) rfl ?_ | refine ld1_row (n := ln) (v := .int .i64 0) rfl ?_ | refine ld1_row (n := ln) (v := .int .i64 1) rfl ?_ | refine ld1_row (n := sn) (v := pt jn0) (by rw [stC_6, hj0]) ?_ | refine ld1_row (n := sn) (v := pt jn1) (by rw [stC_8]; show some (Value.pointer x.j1) = _; rw [hj1]) ?_ | refine call_gr hk1 (.blk takeC .nil) ?_ | refine call_gr hk2 (.blk takeC .nil) ?_ | refine call_gr hk3 (.blk takeC .nil) ?_ | refine call_gr (hm1 o1 a1) (.blk takeC .nil) ?_ | refine call_gr hm2 (.blk takeC .nil) ?_ | refine call_gr hm3 (.blk takeC .nil) ?_ | (refine wr (fun z hz => ?_); rw [ea, w64 (by omega) (by omega)] at hz; subst hz) | (refine wr (fun z hz => ?_); rw [ea1, w64 (by omega) (by omega)] at hz; subst hz) | (refine bld_cons (vs := [_]) rfl rfl rfl (Nat.le_of_ble_eq_true rfl) rfl ?_; refine bld_cons (vs := dgV J0.root) (cs1 := rcC J0.seq J0.root) rfl rfl (dgV_len _) (Nat.le_of_ble_eq_true rfl) (rzs_e _ _) ?_; refine bld_nil ?_) | (refine bld_cons (vs := [_]) rfl rfl rfl (Nat.le_of_ble_eq_true rfl) rfl ?_; refine bld_cons (vs := dgV J1.root) (cs1 := rcC J1.seq J1.root) rfl rfl (dgV_len _) (Nat.le_of_ble_eq_true rfl) (rzs_e _ _) ?_; refine bld_nil ?_) | (refine call_g (g2 xn) (.grp takeG (.grp takeG (.blk takeC (.blk takeC .nil)))) (fun e A' hq => ?_); obtain ⟨o1, a1, a2, ⟨r1, jn, a3, a4⟩ | ⟨r1, a3, a4⟩⟩ := hq <;> subst a3 <;> subst a4) | (refine call_g (g5 xn jn o1 a1 a2) (.grp takeG (.grp takeG (.blk takeC (.blk takeC .nil)))) (fun e A' hq => ?_); obtain ⟨o2, b1, b2, ⟨s1, jm, b3, b4⟩ | ⟨s1, b3, b4⟩⟩ := hq <;> subst b3 <;> subst b4) | (refine call_g (g3 jn jm) (.grp takeG (.blk takeC (.blk takeC .nil))) (fun e A' hq => ?_); obtain ⟨⟨t1, t2⟩ | ⟨t1, t2⟩, t3⟩ := hq <;> subst t2 <;> subst t3) | refine ldN_whole (n := xn) (regC_len _) ?_ | (refine call_g (g4 jn jm) (.grp takeG (.blk takeC .nil)) (fun e A' hq => ?_); obtain ⟨⟨u1, u2⟩ | ⟨u1, u2⟩, u3⟩ := hq <;> subst u2 <;> subst u3) | refine need (by first | rfl | omega) ?_ | (refine wr (fun z hz => ?_); (try rw [Int.tdiv_eq_ediv_of_nonneg (by omega)] at hz); rw [w64 (by omega) (by omega)] at hz; subst hz) | (refine ifs (fun h => ?_) (fun h => ?_) <;> try (exfalso; first | omega | with_reducible first | contradiction | exact h rfl)))
 all_goals (conv => whnf)
 · have hQ : areas2G x.super ⟨s, J0, J1, y⟩ = (⟨⟨(setG G.1 ((y.set 0 K.anchor (1 - J0.area : Nat) 1).set 1 N.anchor (1 - J1.area : Nat) 1)).1, E.1.ts⟩, K, N, ((y.set 0 K.anchor (1 - J0.area : Nat) 1).set 1 N.anchor (1 - J1.area : Nat) 1)⟩, (setG G.1 ((y.set 0 K.anchor (1 - J0.area : Nat) 1).set 1 N.anchor (1 - J1.area : Nat) 1)).2) := by
    unfold areas2G; rw [hfl, bd_pok p1, har, if_pos r1, bd_pok rfl, har1, if_pos s1, bd_pok rfl, hfl2, bd_pok t1]; rfl
   rw [hQ]
   rw [a1]
   simp only [if_pos u1]
   exact fin_g (A := rgM _ ++ (orcM o2 ++ [stB sn _, jB jn a.rn o.on K, jB jm a.rn o.on N])) (.grp takeG (.grp takeG (.blk takeC (.blk takeC (.blk takeC .nil))))) ⟨o2, jn, jm, b1.trans a1, b2, .inl ⟨u1, rfl⟩, rfl⟩
 · have hQ : areas2G x.super ⟨s, J0, J1, y⟩ = (⟨⟨(setG G.1 ((y.set 0 K.anchor (1 - J0.area : Nat) 1).set 1 N.anchor (1 - J1.area : Nat) 1)).1, E.1.ts⟩, K, N, ((y.set 0 K.anchor (1 - J0.area : Nat) 1).set 1 N.anchor (1 - J1.area : Nat) 1)⟩, (setG G.1 ((y.set 0 K.anchor (1 - J0.area : Nat) 1).set 1 N.anchor (1 - J1.area : Nat) 1)).2) := by
    unfold areas2G; rw [hfl, bd_pok p1, har, if_pos r1, bd_pok rfl, har1, if_pos s1, bd_pok rfl, hfl2, bd_pok t1]; rfl
   rw [hQ]
   rw [a1]
   simp only [if_neg u1]
   exact fin_g (A := rgM _ ++ (orcM o2 ++ [stB sn _, jB jn a.rn o.on K, jB jm a.rn o.on N])) (.grp takeG (.grp takeG (.blk takeC (.blk takeC (.blk takeC .nil))))) ⟨o2, jn, jm, b1.trans a1, b2, .inr ⟨u1, rfl⟩, rfl⟩
 · have hQ : areas2G x.super ⟨s, J0, J1, y⟩ = (⟨⟨G.1, E.1.ts⟩, K, N, ((y.set 0 K.anchor (1 - J0.area : Nat) 1).set 1 N.anchor (1 - J1.area : Nat) 1)⟩, G.2) := by
    unfold areas2G; rw [hfl, bd_pok p1, har, if_pos r1, bd_pok rfl, har1, if_pos s1, bd_pok rfl, hfl2, bd_pno t1]
   rw [hQ]
   rw [a1]
   simp only [if_neg t1]
   exact fin_g (A := rgM _ ++ (orcM o2 ++ [stB sn _, jB jn a.rn o.on K, jB jm a.rn o.on N])) (.grp takeG (.grp takeG (.blk takeC (.blk takeC (.blk takeC .nil))))) ⟨o2, jn, jm, b1.trans a1, b2, .inr ⟨t1, rfl⟩, rfl⟩
 · have hQ : areas2G x.super ⟨s, J0, J1, y⟩ = (⟨E.1, K, J1, (y.set 0 K.anchor (1 - J0.area : Nat) 1)⟩, E.2) := by
    unfold areas2G; rw [hfl, bd_pok p1, har, if_pos r1, bd_pok rfl, har1, if_neg s1, bd_pno s1]
   rw [hQ]
   simp only [if_neg s1]
   exact fin_g (A := rgM _ ++ (orcM o2 ++ [stB sn _, jB jn a.rn o.on K, jB jn1 a.rn o.on J1])) (.grp takeG (.grp takeG (.blk takeC (.blk takeC (.blk takeC .nil))))) ⟨o2, jn, jn1, b1.trans a1, b2, .inr ⟨s1, rfl⟩, by unfold StP.wjj StP.setJ; rw [if_pos rfl, ← hj1]⟩
 · have hQ : areas2G x.super ⟨s, J0, J1, y⟩ = (⟨B.1, J0, J1, y⟩, B.2) := by
    unfold areas2G; rw [hfl, bd_pok p1, har, if_neg r1, bd_pno r1]
   rw [hQ]
   simp only [if_neg r1]
   exact fin_g (A := rgM _ ++ (orcM o1 ++ [stB sn _, jB jn0 a.rn o.on J0, jB jn1 a.rn o.on J1])) (.grp takeG (.grp takeG (.blk takeC (.blk takeC (.blk takeC .nil))))) ⟨o1, jn0, jn1, a1, a2, .inr ⟨r1, rfl⟩, by rw [← hx0]⟩
 · have hQ : areas2G x.super ⟨s, J0, J1, y⟩ = (⟨⟨F.1, s.ts⟩, J0, J1, y⟩, F.2) := by
    unfold areas2G; rw [hfl, bd_pno p1]
   rw [hQ]
   simp only [if_neg p1]
   exact fin_g (A := rgM _ ++ (orcM o ++ [stB sn _, jB jn0 a.rn o.on J0, jB jn1 a.rn o.on J1])) (.grp takeG (.grp takeG (.blk takeC (.blk takeC (.blk takeC .nil))))) ⟨o, jn0, jn1, rfl, hts, .inr ⟨p1, rfl⟩, by rw [← hx0]⟩
end Stg
end Go.Proofs.YtkjamonkohpcnaaGreat
