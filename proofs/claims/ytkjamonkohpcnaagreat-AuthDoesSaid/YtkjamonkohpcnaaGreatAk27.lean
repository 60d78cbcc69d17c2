/- Texts of this proof, merged. -/
import Derived.Test.YtkjamonkohpcnaaGreatAk26
import Derived.Test.YtkjamonkohpcnaaGreatAk24
import Derived.Test.YtkjamonkohpcnaaGreatAk4
import Derived.Test.YtkjamonkohpcnaaGreatProg
set_option linter.unusedVariables false
set_option linter.unusedSimpArgs false
set_option linter.unusedSectionVars false
set_option maxRecDepth 100000
set_option maxHeartbeats 16000000
namespace Go.Proofs.YtkjamonkohpcnaaGreat
namespace Cmt
open Go Ev Sha Aes Orc Node Rec Chn Jrn Cau Sto Srt Stg Wld Bgn Ivs Ctr Aut
open Rig (Fnc_takeR RigP Rg rgM readR writeR flushR setRegR z64 app_of tick comes mayE RigA crR)
open Tree (TreP TreA Tre treM TI Same getS setS updB ShJ)
section
variable {a : RigA} {A : StoA} {B : VA} {on : Nat} {S : Sy} {f0 f1 g0 g1 : Nat → ByteArray} {m b : Nat} {N : Int} {ck : ByteArray}
structure OpA (S : Sy) (g0 g1 : Nat → ByteArray) (N : Int) (ck : ByteArray) (R0 R1 : List Rc) (C0 C1 : Nat → ByteArray) : Prop where
 i : OpI (crR S.r) S.V.super S.V.g0 S.V.g1 S.V.g2 ck S.V.is S.V.j0 S.V.j1 R0 R1
 t0 : TC S.V.j0.root C0 g0
 t1 : TC S.V.j1.root C1 g1
 ar : ∀ q : Ax, q.s.r = opR (crR S.r) S.V.j0 S.V.j1 R0 R1 → q.j0 = S.V.j0 → q.j1 = S.V.j1 → q.y = RgV.nx S.V.is → ArO S.V.super (opR (crR S.r) S.V.j0 S.V.j1 R0 R1) S.V.is S.V.j0 S.V.j1 N C0 C1 q.s.ts.length (areas2G S.V.super q)
theorem op_a (h : WK a A on S f0 f1 m b N g0 g1) (su : SuI S.V.super S.V.g0 S.V.g1 S.V.g2 ck) (ep : 0 ≤ S.V.is.ep ∧ S.V.is.ep ≤ 4294967294) (hN : N + 1 ≤ 4294967295) : ∃ R0 R1 C0 C1, OpA S g0 g1 N ck R0 R1 C0 C1 := by
 obtain ⟨C0, C1, ⟨dk, n0, n1⟩, t0, t1⟩ := h.ds
 obtain ⟨⟨R0, d0⟩, ⟨R1, d1⟩, sp, rg⟩ := dk.cr
 have j0 := h.wj.j0
 have j1 := h.wj.j1
 have s64 := h.wj.s64
 have w := h.wj.wi
 have hq0 : seqOk S.V.j0.seq := by have := j0.sq; unfold seqOk; omega
 have hq1 : seqOk S.V.j1.seq := by have := j1.sq; unfold seqOk; omega
 have hf := fine_cr S.r
 have f3 : Fine (tks (tks (tks (crR S.r) 2) S.V.j0.used) S.V.j1.used) := tks_f (tks_f (tks_f hf 2) _) _
 have sp3 : SP (tks (tks (tks (crR S.r) 2) S.V.j0.used) S.V.j1.used) S.V.super := ((sp.tks 2).tks _).tks _
 have e3 : ∀ d j, nw_ (tks (tks (tks (crR S.r) 2) S.V.j0.used) S.V.j1.used) d j = nw_ (crR S.r) d j := fun d j => by rw [nw_tks, nw_tks, nw_tks]
 have k0 : ∀ j, 161 ≤ j → j < 288 → nw_ (opR (crR S.r) S.V.j0 S.V.j1 R0 R1) 0 j = C0 j := fun j h1 h2 => by
  unfold opR
  rw [nw_rpO (.inr rfl) (.inl rfl) (by decide) j R1 _ d1.ok, nw_rpR (.inl rfl) j R0 _ d0.ok, rpl_pt R0 (C' := nw_ (crR S.r) 0) (e3 0 j)]
  exact (d0.hm j h1 h2).1
 have k1 : ∀ j, 161 ≤ j → j < 288 → nw_ (opR (crR S.r) S.V.j0 S.V.j1 R0 R1) 1 j = C1 j := fun j h1 h2 => by
  unfold opR
  rw [nw_rpR (.inr rfl) j R1 _ d1.ok, rpl_pt R1 (C' := nw_ (crR S.r) 1) ((nw_rpO (.inl rfl) (.inr rfl) (by decide) j R0 _ d0.ok).trans (e3 1 j))]
  exact (d1.hm j h1 h2).1
 refine ⟨R0, R1, C0, C1, ⟨hf, rg, w.vok.reg, w.vok.att, ep, sp.n, su, d0.ldI (by decide) j0.area s64 j0.used, d1.ldI (by decide) j1.area s64 j1.used, h.wj.rj, hq0, hq1⟩, t0, t1, fun q h1 h2 h3 h4 => ?_⟩
 exact ar_o (fine_rp (fine_rp f3 _ _) _ _) w.vok.att w.vok.reg ep j0 j1 h.wj.rj hN (SP.rp (.inr rfl) R1 _ d1.ok (SP.rp (.inl rfl) R0 _ d0.ok sp3)) k0 k1 q h1 h2 h3 h4
theorem OpA.z {R0 R1 : List Rc} {C0 C1 : Nat → ByteArray} (h : OpA S g0 g1 N ck R0 R1 C0 C1) : ∀ ts, (areas2G S.V.super ⟨⟨opR (crR S.r) S.V.j0 S.V.j1 R0 R1, ts⟩, S.V.j0, S.V.j1, RgV.nx S.V.is⟩).2 = 0 := fun ts => (h.ar ⟨⟨_, ts⟩, _, _, _⟩ rfl rfl rfl rfl).e
def nwV (S : Sy) (k : Nat → Int) : VP := ⟨k, ⟨S.V.is.iv, S.V.is.iv, S.V.g2⟩, 0⟩
theorem wk_opened (h : WK a A on S f0 f1 m b N g0 g1) (hmany : S.v.x.many = S.V.g2) {R0 R1 : List Rc} {C0 C1 : Nat → ByteArray} (hO : OpA S g0 g1 N ck R0 R1 C0 C1) {s : Sto} {o' : Orc} {q : Ax} (h1 : q.s.r = opR (crR S.r) S.V.j0 S.V.j1 R0 R1) (hts : q.s.ts.length ≤ S.o.ts.length + 200) (h2 : q.j0 = S.V.j0) (h3 : q.j1 = S.V.j1) (h4 : q.y = RgV.nx S.V.is)
 (ho : o'.on = on) (ho2 : o'.ts = (areas2G S.V.super q).1.s.ts) (hV : s.V = opV a.rn on S.V.super S.V.g0 S.V.g1 S.V.g2 S.V.j0 S.V.j1 (areas2G S.V.super q).1) (hs : SOk s a.rn on) {k : Nat → Int} (hk : ∀ i, by8 (k i)) :
 WK a s.A on ⟨(areas2G S.V.super q).1.s.r, o', s.V, nwV S k⟩ g0 g1 0 (b + 204) N g0 g1 := by
 have r := hO.ar q h1 h2 h3 h4
 obtain ⟨A', V'⟩ := s
 dsimp only at hV
 subst hV
 have w := h.wj.wi
 have hl := w.len
 have hrow := w.vok.row
 have htop := w.vok.top
 generalize areas2G S.V.super q = x at r ho2 hs ⊢
 have tc0 : TC S.V.j0.root C0 g0 := hO.t0
 have tc1 : TC S.V.j1.root C1 g1 := hO.t1
 have i0 := ti_of (r := x.1.s.r) (d := 0) (.inl rfl) tc0 r.dj.n0
 have i1 := ti_of (r := x.1.s.r) (d := 1) (.inr rfl) tc1 r.dj.n1
 have rt := r.ts
 unfold rowOk at hrow
 refine ⟨⟨⟨hs, ho, ⟨_, i0.1⟩, ⟨_, i1.1⟩, rfl, rfl, Nat.zero_le _, Nat.zero_le _, ?_, ⟨?_, r.sm.2.1, r.ok, r.fine, rfl, r.sm.1⟩, hk, ⟨Int.le_refl _, Int.le_refl _⟩⟩, ⟨_, i0⟩, ⟨_, i1⟩, r.j0, r.j1, r.rj, r.ok, h.wj.s64⟩, ⟨C0, C1, r.dj, ?_, ?_⟩⟩
 · show o'.ts.length ≤ b + 204
   rw [ho2]; omega
 · show rowOk ⟨S.V.is.iv, S.V.is.iv, S.V.g2⟩
   unfold rowOk
   dsimp only
   rw [← hmany, htop]; omega
 · show TC x.1.j0.root C0 g0
   rw [r.rt0]; exact tc0
 · show TC x.1.j1.root C1 g1
   rw [r.rt1]; exact tc1
end
end Cmt
namespace Cmt
open Go Ev Sha Aes Orc Node Rec Chn Jrn Cau Sto Srt Stg Wld Bgn Ivs Ctr Aut
open Rig (Fnc_takeR RigP Rg rgM readR writeR flushR setRegR z64 app_of tick comes mayE RigA crR)
open Tree (TreP TreA Tre treM TI Same getS setS updB ShJ)
section
variable {a : RigA} {A : StoA} {B : VA} {on : Nat} {S : Sy} {f0 f1 g0 g1 : Nat → ByteArray} {m b : Nat} {N : Int} {ck : ByteArray}
theorem w_commitK (h : WK a A on S f0 f1 m b N g0 g1) (hm : m ≤ 64) (hN : N + 1 ≤ 4294967295) (hb : b ≤ 1099511500000) :
 Fnc Tryz.prog 23 [pt A.sn] (syM a A B S) (AC a A B (fun A' S' => WK a A' on S' f0 f1 m (b + 6) (N + 1) f0 f1 ∧ CmW a on S f0 f1 m b N A' S') (.int .i64 0)) :=
 Fnc_mono (w_commit h.wj hm hN hb) fun e M ⟨A', S', h1, k, h2, h3⟩ => ⟨A', S', h1, ⟨⟨k.wj, ds_com h k⟩, k⟩, h2, h3⟩
theorem wk_small (h : WK a A on S f0 f1 m b N g0 g1) : (S.r.d0 0).safe.size ≤ 4096 ∧ (S.r.d1 0).safe.size ≤ 4096 := by
 obtain ⟨C0, C1, ⟨⟨_, _, sp, _⟩, _, _⟩, _, _⟩ := h.ds
 have e0 : (S.r.d0 0).safe = sf_ S.r 0 0 := rfl
 have e1 : (S.r.d1 0).safe = sf_ S.r 1 0 := rfl
 have := h.wj.s64
 rw [e0, e1, sp.s, sp.s1]
 omega
abbrev los : Value := .agg #[.slice none 0 0, .int .i64 0, .int .i64 0]
theorem w_crash (h : WK a A on S f0 f1 m b N g0 g1) : Fnc Tryz.prog 36 [pt a.rn, los, los] (sysM a S.r S.o A S.V) (Ret (.int .i64 0) (sysM a (crR S.r) S.o A S.V)) := by
 have hs := wk_small h
 have h1 := Fnc_more (B := orcM S.o ++ (stB A.sn (Sto.c ⟨A, S.V⟩) :: stoR ⟨A, S.V⟩)) (Rig.crash_ a S.r hs.1 hs.2)
 unfold sysM
 refine Fnc_mono h1 ?_
 rintro e M ⟨A', h2, h3, h4⟩
 subst h2; subst h4
 exact ⟨h3, rfl⟩
structure OpnW (a : RigA) (on : Nat) (S : Sy) (b : Nat) (N : Int) (g0 g1 : Nat → ByteArray) (s : Sto) (r' : RigP) (o' : Orc) : Prop where
 wk : ∀ k : Nat → Int, (∀ i, by8 (k i)) → WK a s.A on ⟨r', o', s.V, ⟨k, ⟨s.V.is.iv, s.V.is.iv, s.V.g2⟩, 0⟩⟩ g0 g1 0 (b + 204) N g0 g1
 iv : s.V.is.iv = S.V.is.iv
 ep : s.V.is.ep = S.V.is.ep + 1
 g : s.V.g0 = S.V.g0 ∧ s.V.g1 = S.V.g1 ∧ s.V.g2 = S.V.g2 ∧ s.V.super = S.V.super
 dy : s.V.is.dirty = S.V.is.dirty ∧ s.V.is.mode = S.V.is.mode
 nx : s.V.next = s.V.is
 sh : s.V.t0.sheet = [] ∧ s.V.t1.sheet = []
theorem w_open (h : WK a A on S f0 f1 m b N g0 g1) (hmany : S.v.x.many = S.V.g2) (su : SuI S.V.super S.V.g0 S.V.g1 S.V.g2 ck) (ep : 0 ≤ S.V.is.ep ∧ S.V.is.ep ≤ 4294967294) (hN : N + 1 ≤ 4294967295) (hb : b ≤ 1099511500000) :
 Fnc Tryz.prog 37 [pt a.rn, pt on] (sysM a (crR S.r) S.o A S.V) (fun e M => ∃ s r' o', OpnW a on S b N g0 g1 s r' o' ∧ e = .returned (.tuple #[pt s.A.sn, .string ck, .int .i64 0]) ∧ M = sysM a r' o' s.A s.V) := by
 obtain ⟨R0, R1, C0, C1, hO⟩ := op_a h su ep hN
 have hl := h.wj.wi.len
 have hon := h.wj.wi.on
 have ho := Open_ a (crR S.r) S.o S.V.super S.V.g0 S.V.g1 S.V.g2 ck S.V.is S.V.j0 S.V.j1 R0 R1 hO.i (by omega) hO.z
 rw [hon] at ho
 have h1 := Fnc_more (B := stB A.sn (Sto.c ⟨A, S.V⟩) :: stoR ⟨A, S.V⟩) ho
 unfold sysM
 rw [List.append_assoc] at h1
 refine Fnc_drop h1 ?_
 rintro e M ⟨A', h2, s, o', q, k1, k2, k3, k4, k5, k6, k7, k8, k9, k10, k11, k12⟩
 subst h2; subst k12
 have hr := hO.ar q k1 k3 k4 k5
 have hw := fun k hk => wk_opened (s := s) (o' := o') (q := q) (k := k) h hmany hO k1 k2 k3 k4 k5 (k6.trans hon) k7 (by rw [k9, hon]) (by rw [← hon]; exact hon ▸ k10) hk
 have iv : s.V.is.iv = S.V.is.iv := by rw [k9]; exact hr.sm.2.1
 have g2 : s.V.g2 = S.V.g2 := by rw [k9]; rfl
 refine fin_g (A := (rgM ⟨a, (areas2G S.V.super q).1.s.r⟩ ++ (orcM o' ++ stoM s))) (.one takeE) ⟨s, _, o', ⟨fun k hk => ?_, iv, by rw [k9]; exact hr.sm.2.2, by rw [k9]; exact ⟨rfl, rfl, rfl, rfl⟩, by rw [k9]; exact hr.dy, by rw [k9]; rfl, by rw [k9]; exact ⟨rfl, rfl⟩⟩, k11, rfl⟩
 rw [iv, g2]
 exact hw k hk
theorem w_new {r : RigP} {o : Orc} {V : StoV} {key : ByteArray} (hk : key.size = 32) (hi : 1 ≤ V.g2 ∧ V.g2 ≤ 1099511627776 ∧ 0 ≤ V.is.iv ∧ V.is.iv ≤ V.g2) :
 Fnc Tryz.prog 38 [pt A.sn, .string key] (sysM a r o A V) (fun e M => ∃ B : VA, e = .returned (.tuple #[pt B.vn, .int .i64 0]) ∧ M = syM a A B ⟨r, o, V, ⟨keyT key, ⟨V.is.iv, V.is.iv, V.g2⟩, 0⟩⟩) := by
 have h1 := new_ok A.sn (Sto.c ⟨A, V⟩) key hk hi
 have ht : TakesG (sysM a r o A V) [stB A.sn (Sto.c ⟨A, V⟩)] (rgM ⟨a, r⟩ ++ (orcM o ++ stoR ⟨A, V⟩)) := by
  unfold sysM
  exact .blk takeC .nil
 refine Fnc_drop (Fnc_perm (Fnc_more (B := rgM ⟨a, r⟩ ++ (orcM o ++ stoR ⟨A, V⟩)) h1) ht.perm.symm) ?_
 rintro e M ⟨A', h2, B, h3, h4⟩
 subst h2; subst h4
 refine fin_g (R := []) (A := rgM ⟨a, r⟩ ++ (orcM o ++ (stB A.sn (Sto.c ⟨A, V⟩) :: (stoR ⟨A, V⟩ ++ vM B A.sn ⟨keyT key, ⟨V.is.iv, V.is.iv, V.g2⟩, 0⟩)))) ?_ ⟨B, h3, ?_⟩
 · simp only [List.append_assoc, List.cons_append, List.nil_append]
   unfold vM Sto.c
   exact .grp takeG (.grp takeG (.blk takeC (.grp takeG (.blk takeC (.blk takeC (.blk takeC .nil))))))
 · unfold syM sysM
   simp only [List.append_assoc, List.cons_append]
end
section
variable {a : RigA} {A : StoA} {B : VA} {S : Sy}
theorem number_no (A : StoA) (B : VA) (v : VP) (h : rowOk v.x) (hn : v.x.many ≤ v.x.next) : Fnc Tryz.prog 185 [pt B.vn] [vB B A.sn v, rwB B.wn v.x] (Ret (.tuple #[.int .i64 0, .int .i64 16]) [vB B A.sn v, rwB B.wn v.x]) := by
 have h1 := need_ B.wn v.x h
 have hr := h
 unfold rowOk at hr
 rw [show needB v.x = false by unfold needB; exact decide_eq_false (by omega)] at h1
 have h2 := itake_no B.wn v.x h hn
 refine fn_intro Tryz.func185 (by kernel_rfl) ?_
 repeat' ((conv => whnf); first
  | refine call_gr h1 (.blk takeC .nil) ?_ | refine call_gr h2 (.blk takeC .nil) ?_ | refine ld1_lit ?_)
 all_goals (conv => whnf)
 all_goals exact fin_g (A := [⟨B.vn, _⟩, ⟨B.wn, _⟩]) (.blk takeC (.blk takeC .nil)) ⟨rfl, rfl⟩
theorem seal_no (A : StoA) (V : StoV) (B : VA) (v : VP) (s : ByteArray) (hf : V.failed = 0) (h : rowOk v.x) (hn : v.x.many ≤ v.x.next) (hs : s.size = 48) :
 Fnc Tryz.prog 133 [pt B.vn, .string s] [stB A.sn (Sto.c ⟨A, V⟩), vB B A.sn v, rwB B.wn v.x] (Ret (.tuple #[.string ByteArray.empty, .int .i64 16]) [stB A.sn (Sto.c ⟨A, V⟩), vB B A.sn v, rwB B.wn v.x]) := by
 have h1 := failed_ A.sn (Sto.c ⟨A, V⟩) (by unfold Sto.c; exact hf)
 have h2 := number_no A B v h hn
 refine fn_intro Tryz.func133 (by kernel_rfl) ?_
 repeat' ((conv => whnf); first
  | refine call_gr h1 (.blk takeC .nil) ?_ | refine call_gr h2 (.blk takeC (.blk takeC .nil)) ?_ | refine ld1_lit ?_ | (refine ifs (fun h => ?_) (fun h => ?_) <;> try (exfalso; first | omega | with_reducible first | contradiction | exact h rfl)))
 all_goals (conv => whnf)
 all_goals exact fin_g (A := [⟨A.sn, _⟩, ⟨B.vn, _⟩, ⟨B.wn, _⟩]) (.blk takeC (.blk takeC (.blk takeC .nil))) ⟨rfl, rfl⟩
theorem write_no (A : StoA) (V : StoV) (B : VA) (v : VP) (d l : Int) (s : ByteArray) (hf : V.failed = 0) (h : rowOk v.x) (hn : v.x.many ≤ v.x.next) (hs : s.size = 48) :
 Fnc Tryz.prog 70 [pt B.vn, .int .i64 d, .int .i64 l, .string s] [stB A.sn (Sto.c ⟨A, V⟩), vB B A.sn v, rwB B.wn v.x] (Ret (.int .i64 16) [stB A.sn (Sto.c ⟨A, V⟩), vB B A.sn v, rwB B.wn v.x]) := by
 have h1 := seal_no A V B v s hf h hn hs
 refine fn_intro Tryz.func70 (by kernel_rfl) ?_
 repeat' ((conv => whnf); first
  | refine call_gr h1 (.blk takeC (.blk takeC (.blk takeC .nil))) ?_ | (refine ifs (fun h => ?_) (fun h => ?_) <;> try (exfalso; first | omega | with_reducible first | contradiction | exact h rfl)))
 all_goals (conv => whnf)
 all_goals exact fin_g (A := [⟨A.sn, _⟩, ⟨B.vn, _⟩, ⟨B.wn, _⟩]) (.blk takeC (.blk takeC (.blk takeC .nil))) ⟨rfl, rfl⟩
theorem w_write_no {on : Nat} {f0 f1 : Nat → ByteArray} {m b : Nat} (h : WI a A on S f0 f1 m b) {d l : Int} {s : ByteArray} (hn : S.v.x.many ≤ S.v.x.next) (hs : s.size = 48) :
 Fnc Tryz.prog 70 [pt B.vn, .int .i64 d, .int .i64 l, .string s] (syM a A B S) (Ret (.int .i64 16) (syM a A B S)) := by
 unfold syM sysM vM
 exact Fnc_keep (write_no A S.V B S.v d l s h.vok.ok h.vok.row hn hs) (.blk takeC (.blk takeC (.blk takeC .nil)))
end
end Cmt
namespace Bgn
open Go Ev Sha Aes Orc Node Rec Chn Jrn Cau Sto Ivs Ctr Aut Wld
open Rig (Fnc_takeR RigP Rg rgM z64 app_of RigA r0)
theorem z7_ : Fnc Tryz.prog 39 [.int .i64 7] [] (Ret (.string z7) []) := Be.zeros 7 (by omega) (by omega)
open Classical in
noncomputable def kdB (s : ByteArray) : Bool := if kdOk s then true else false
theorem k5_no {s : ByteArray} (h : ¬ kdOk s) : Ending.returned (oneOrMany [.int .i64 0, .int .i64 0, .bool false]) = .returned (.tuple #[.int .i64 (kdN s), .int .i64 (kdK s), .bool (kdB s)]) := by
 unfold kdN kdK kdB; rw [if_neg h, if_neg h, if_neg h]; rfl
theorem k5_yes {s : ByteArray} (h : kdOk s) : Ending.returned (oneOrMany [.int .i64 (Be.getN (s.extract 0 8)), .int .i64 (byteAt s 8), .bool true]) = .returned (.tuple #[.int .i64 (kdN s), .int .i64 (kdK s), .bool (kdB s)]) := by
 unfold kdN kdK kdB; rw [if_pos h, if_pos h, if_pos h]; rfl
theorem getN_0 (s : ByteArray) : 0 ≤ Be.getN s := by unfold Be.getN; split <;> omega
attribute [local irreducible] Be.getE Be.getN z7 byteAt
theorem kind5 (s : ByteArray) (hs : s.size ≤ 140737488355328) : Fnc Tryz.prog 137 [.string s] [] (Ret (.tuple #[.int .i64 (kdN s), .int .i64 (kdK s), .bool (kdB s)]) []) := by
 have hg := Be.get01 (s.extract 0 8)
 have hb := Be.byteAt_bd s 8
 have h0 := getN_0 (s.extract 0 8)
 by_cases hz : s.extract 9 16 = z7
 all_goals
  refine fn_intro Tryz.func137 (by kernel_rfl) ?_
  repeat' ((conv => whnf); first
   | refine call_val hg ?_ | refine call_val z7_ ?_ | refine draw_any 4 [(0, true), (1, true), (2, true), (3, true), (4, true), (5, true), (6, true), (7, true), (8, true), (9, true), (10, true), (11, true), (12, true), (13, true), (14, true), (15, true), (16, true), (17, true), (18, true), (19, false), (20, true), (21, true)] [] rfl (by kernel_rfl) (kept_nil ?_) | refine draw_any 6 [(0, true), (1, true), (2, true), (3, true), (4, true), (5, true), (6, true)] [] rfl (by kernel_rfl) (kept_nil ?_) | refine kept_nil ?_ | refine sv_eq (a := s.extract 0 8) rfl ?_ | refine sv_eq (a := s.extract 9 16) rfl ?_ | refine zv_eq (a := byteAt s 8) rfl ?_ | refine need ⟨by omega, by omega⟩ ?_ | refine ift hz ?_ | refine iff' hz ?_ | (refine wr (fun z hz => ?_); (try rw [Int.tdiv_eq_ediv_of_nonneg (by omega)] at hz); rw [w64 (by omega) (by omega)] at hz; subst hz) | (refine ifs (fun h => ?_) (fun h => ?_) <;> try (exfalso; first | omega | with_reducible first | contradiction | exact h rfl)))
  all_goals (conv => whnf)
  all_goals first
   | exact fin_pick (A' := []) .nil ⟨k5_yes ⟨by omega, by omega, ⟨by omega, by omega⟩, by unfold byte8; omega, hz⟩, rfl⟩ | exact fin_pick (A' := []) .nil ⟨k5_no (fun ⟨x1, x2, ⟨x3, x6⟩, x4, x5⟩ => by unfold byte8 at x4; omega), rfl⟩ | exact fin_pick (A' := []) .nil ⟨k5_no (fun ⟨x1, x2, x3, x4, x5⟩ => hz x5), rfl⟩
end Bgn
namespace Bgn
open Go Ev
theorem fits_cons {k : Kd} {ks : List Kd} {vs : List Value} (h : FitsW (k :: ks) vs) : ∃ v vs', vs = v :: vs' ∧ k.okw v ∧ FitsW ks vs' := by
 cases vs with
 | nil => exact h.elim
 | cons v vs' => exact ⟨v, vs', rfl, h.1, h.2⟩
abbrev actL (k d l e t : Int) (s : ByteArray) : List Value := [.int .i64 k, .int .i64 d, .int .i64 l, .int .i64 e, .int .i64 t, .string s]
theorem act_in {cs : List Value} (h : FitsW [.int .i64, .int .i64, .int .i64, .int .i64, .int .i64, .string] cs) : ∃ (k d l e t : Int) (s : ByteArray), cs = actL k d l e t s := by
 obtain ⟨_, _, rfl, ⟨k, rfl, _⟩, h1⟩ := fits_cons h
 obtain ⟨_, _, rfl, ⟨g, rfl, _⟩, h2⟩ := fits_cons h1
 obtain ⟨_, _, rfl, ⟨s, rfl, _⟩, h3⟩ := fits_cons h2
 obtain ⟨_, _, rfl, ⟨p, rfl, _⟩, h4⟩ := fits_cons h3
 obtain ⟨_, _, rfl, ⟨v, rfl, _⟩, h5⟩ := fits_cons h4
 obtain ⟨_, _, rfl, ⟨d, rfl⟩, h6⟩ := fits_cons h5
 have := h6.length
 rw [List.eq_nil_of_length_eq_zero this]
 exact ⟨k, g, s, p, v, d, rfl⟩
theorem kAct : kindsOf Tryz.prog 3 74 = some [.int .i64, .int .i64, .int .i64, .int .i64, .int .i64, .string] := by kernel_rfl
theorem cellsAct : Tryz.prog.cellsOf 74 = [Kd.int .i64, Kd.int .i64, Kd.int .i64, Kd.int .i64, Kd.int .i64, Kd.string].length := by kernel_rfl
end Bgn
namespace Ad
open Go Ev Sha Aes Orc Node Rec Chn Jrn Cau Sto Srt Stg Wld Bgn Ivs Ctr Aut Cmt
open Rig (Fnc_takeR RigP Rg rgM z64 app_of RigA crR)
open Tree (TreP TreA Tre treM TI Same updB)
def wdS (rn on : Nat) (vp : Option Addr) (f g : Nat → ByteArray) (sv : Value) : List Value := .pointer (some ⟨rn, 0, none⟩) :: .pointer (some ⟨on, 0, none⟩) :: .pointer vp :: (rowS f ++ (rowS g ++ [sv]))
abbrev wsB (n rn on : Nat) (vp : Option Addr) (f g : Nat → ByteArray) (sv : Value) : Blk := ⟨n, .row (wdS rn on vp f g sv) 80⟩
section
variable {rn on : Nat} {vp : Option Addr} {f g : Nat → ByteArray} {sv : Value}
theorem wdS_e : wdS rn on vp f g (.slice none 0 0) = wdC rn on vp f g := rfl
theorem wdS_len : (wdS rn on vp f g sv).length = 260 := by unfold wdS; simp [rowS_len]
theorem wdS_0 : (wdS rn on vp f g sv)[0]? = some (pt rn) := rfl
theorem wdS_1 : (wdS rn on vp f g sv)[1]? = some (pt on) := rfl
theorem wdS_2 : (wdS rn on vp f g sv)[2]? = some (.pointer vp) := rfl
theorem rowS_at (f : Nat → ByteArray) {i : Nat} (h : i < 128) : (rowS f)[i]? = some (.string (f i)) := by
 unfold rowS; rw [List.getElem?_map, List.getElem?_range h]; rfl
theorem wdS_at {i : Nat} (h : i < 128) : (wdS rn on vp f g sv)[3 + i]? = some (.string (f i)) := by
 unfold wdS
 rw [show 3 + i = i + 1 + 1 + 1 by omega, List.getElem?_cons_succ, List.getElem?_cons_succ, List.getElem?_cons_succ, List.getElem?_append_left (by rw [rowS_len]; exact h), rowS_at f h]
theorem wdS_sv : (wdS rn on vp f g sv)[259]? = some sv := by
 unfold wdS
 rw [show 259 = 256 + 1 + 1 + 1 by omega, List.getElem?_cons_succ, List.getElem?_cons_succ, List.getElem?_cons_succ, List.getElem?_append_right (by rw [rowS_len]; omega), rowS_len, List.getElem?_append_right (by rw [rowS_len]; omega), rowS_len]; rfl
theorem wdS_ssv {v : Value} : (wdS rn on vp f g sv).set 259 v = wdS rn on vp f g v := by
 unfold wdS
 rw [show 259 = 256 + 1 + 1 + 1 by omega, List.set_cons_succ, List.set_cons_succ, List.set_cons_succ, List.set_append_right _ _ (by rw [rowS_len]; omega), rowS_len, List.set_append_right _ _ (by rw [rowS_len]; omega), rowS_len]; rfl
theorem wdS_s2 {v : Option Addr} : (wdS rn on vp f g sv).set 2 (.pointer v) = wdS rn on v f g sv := rfl
theorem wdS_sm {i : Nat} (hi : i < 128) (s : ByteArray) : (wdS rn on vp f g sv).set (3 + i) (.string s) = wdS rn on vp (updB f i s) g sv := by
 unfold wdS
 rw [show 3 + i = i + 1 + 1 + 1 by omega, List.set_cons_succ, List.set_cons_succ, List.set_cons_succ, List.set_append_left _ _ (by rw [rowS_len]; omega), rowS_set f hi]
theorem wdS_m : ((wdS rn on vp f g sv).drop 3).take (rowS f).length = rowS f := by
 unfold wdS
 show (rowS f ++ (rowS g ++ [sv])).take (rowS f).length = rowS f
 rw [List.take_left']; rfl
theorem wdS_o : ((wdS rn on vp f g sv).drop 131).take (rowS g).length = rowS g := by
 unfold wdS
 show ((rowS f ++ (rowS g ++ [sv])).drop 128).take (rowS g).length = rowS g
 rw [List.drop_left' (rowS_len f), List.take_left']; rfl
theorem wdS_so {h : Nat → ByteArray} : (wdS rn on vp f g sv).take 131 ++ rowS h ++ (wdS rn on vp f g sv).drop (131 + (rowS h).length) = wdS rn on vp f h sv := by
 unfold wdS
 rw [rowS_len]
 show (([Value.pointer (some ⟨rn, 0, none⟩), .pointer (some ⟨on, 0, none⟩), .pointer vp] ++ ((rowS f ++ (rowS g ++ [sv])).take 128)) ++ rowS h) ++ ((rowS f ++ (rowS g ++ [sv])).drop 256) = _
 rw [List.take_left' (rowS_len f), show 256 = (rowS f).length + 128 by rw [rowS_len], ← List.drop_drop, List.drop_left, List.drop_left' (rowS_len g)]
 simp
theorem wdS_sf {h : Nat → ByteArray} : (wdS rn on vp f g sv).take 3 ++ rowS h ++ (wdS rn on vp f g sv).drop (3 + (rowS h).length) = wdS rn on vp h g sv := by
 unfold wdS
 rw [rowS_len]
 show ([Value.pointer (some ⟨rn, 0, none⟩), .pointer (some ⟨on, 0, none⟩), .pointer vp] ++ rowS h) ++ ((rowS f ++ (rowS g ++ [sv])).drop 128) = _
 rw [List.drop_left' (rowS_len f)]
 simp
end
section
variable {P : Program} {M : List Blk} {n rn on : Nat} {vp : Option Addr} {f g : Nat → ByteArray} {sv : Value} {T : TypeId} {F : Blk → List Blk} {k : List Blk → Prop} [z : Zip M n (.row (wdS rn on vp f g sv) T) F]
include z
theorem ss_v {v : Option Addr} (hk : k (F ⟨n, .row (wdS rn on v f g sv) T⟩)) : StN P M n 2 [.pointer v] k := st_row rfl (by rw [wdS_len]; omega) (by rw [wdS_s2]; exact hk)
theorem ss_m {i j : Nat} {s : ByteArray} (hj : j = 3 + i) (hi : i < 128) (hk : k (F ⟨n, .row (wdS rn on vp (updB f i s) g sv) T⟩)) : StN P M n j [.string s] k := by
 subst hj; exact st_row rfl (by rw [wdS_len]; omega) (by rw [wdS_sm hi]; exact hk)
theorem ss_o {h : Nat → ByteArray} (hk : k (F ⟨n, .row (wdS rn on vp f h sv) T⟩)) : StN P M n 131 (rowS h) k := st_rowN (rowS_one h) (by rw [wdS_len, rowS_len]; omega) (by rw [wdS_so]; exact hk)
theorem ss_f {h : Nat → ByteArray} (hk : k (F ⟨n, .row (wdS rn on vp h g sv) T⟩)) : StN P M n 3 (rowS h) k := st_rowN (rowS_one h) (by rw [wdS_len, rowS_len]; omega) (by rw [wdS_sf]; exact hk)
theorem ss_sv {p : Option Addr} {q c : Nat} (hk : k (F ⟨n, .row (wdS rn on vp f g (.slice p q c)) T⟩)) : StN P M n 259 [.slice p q c] k := st_row rfl (by rw [wdS_len]; omega) (by rw [wdS_ssv]; exact hk)
end
theorem in_ (d l : Int) : Fnc Tryz.prog 74 [.int .i64 d, .int .i64 l] [] (Ret (.bool (decide ((d = 0 ∨ d = 1) ∧ 0 ≤ l ∧ l < 64))) []) := by
 refine fn_intro Tryz.func74 (by kernel_rfl) ?_
 repeat' ((conv => whnf); first
  | (refine ifs (fun h => ?_) (fun h => ?_) <;> try (exfalso; first | omega | with_reducible first | contradiction | exact h rfl)))
 all_goals (conv => whnf)
 all_goals first
  | (rw [decide_eq_true (by omega)]; exact fin_nil ⟨rfl, rfl⟩) | (rw [decide_eq_false (by omega)]; exact fin_nil ⟨rfl, rfl⟩)
def fineB (d l e t : Int) (s : ByteArray) : Prop := ((d = 0 ∨ d = 1) ∧ 0 ≤ l ∧ l < 64) ∧ ((e = 0 ∨ e = 1) ∧ 0 ≤ t ∧ t < 64) ∧ s.size < 300
instance (d l e t : Int) (s : ByteArray) : Decidable (fineB d l e t s) := by unfold fineB; infer_instance
theorem fine_ (k d l e t : Int) (s : ByteArray) : Fnc Tryz.prog 30 [.agg #[.int .i64 k, .int .i64 d, .int .i64 l, .int .i64 e, .int .i64 t, .string s]] [] (Ret (.bool (decide (fineB d l e t s))) []) := by
 by_cases h1 : (d = 0 ∨ d = 1) ∧ 0 ≤ l ∧ l < 64
 · by_cases h2 : (e = 0 ∨ e = 1) ∧ 0 ≤ t ∧ t < 64
   · have c1 := in_ d l
     have c2 := in_ e t
     rw [decide_eq_true h1] at c1
     rw [decide_eq_true h2] at c2
     refine fn_intro Tryz.func30 (by kernel_rfl) ?_
     repeat' ((conv => whnf); first
      | refine call_val c1 ?_ | refine call_val c2 ?_ | refine ld1_lit ?_ | refine nw (fun n => ?_) | (refine ifs (fun h => ?_) (fun h => ?_) <;> try (exfalso; first | omega | with_reducible first | contradiction | exact h rfl)))
     all_goals (conv => whnf)
     all_goals first
      | exact fin_pick (A' := []) .nil ⟨by rw [decide_eq_true (show fineB d l e t s from ⟨h1, h2, by omega⟩)]; rfl, rfl⟩ | exact fin_pick (A' := []) .nil ⟨by rw [decide_eq_false (show ¬ fineB d l e t s from fun x => by have := x.2.2; omega)]; rfl, rfl⟩
   · have c1 := in_ d l
     have c2 := in_ e t
     rw [decide_eq_true h1] at c1
     rw [decide_eq_false h2] at c2
     refine fn_intro Tryz.func30 (by kernel_rfl) ?_
     repeat' ((conv => whnf); first
      | refine call_val c1 ?_ | refine call_val c2 ?_ | refine ld1_lit ?_ | refine nw (fun n => ?_))
     all_goals (conv => whnf)
     all_goals exact fin_pick (A' := []) .nil ⟨by rw [decide_eq_false (show ¬ fineB d l e t s from fun x => h2 x.2.1)]; rfl, rfl⟩
 · have c1 := in_ d l
   rw [decide_eq_false h1] at c1
   refine fn_intro Tryz.func30 (by kernel_rfl) ?_
   repeat' ((conv => whnf); first
    | refine call_val c1 ?_ | refine ld1_lit ?_ | refine nw (fun n => ?_))
   all_goals (conv => whnf)
   all_goals exact fin_pick (A' := []) .nil ⟨by rw [decide_eq_false (show ¬ fineB d l e t s from fun x => h1 x.1)]; rfl, rfl⟩
def dat48 (s : ByteArray) : ByteArray := if s.size ≤ 48 then Be.full s 48 else s.extract 0 48
theorem full_size {s : ByteArray} (h : s.size ≤ 48) : (Be.full s 48).size = 48 := by
 unfold Be.full
 split
 · omega
 · rw [ByteArray.size_append, Ev.str_size, List.length_replicate]; omega
theorem dat48_size (s : ByteArray) : (dat48 s).size = 48 := by
 unfold dat48
 split
 · exact full_size ‹_›
 · rw [ByteArray.size_extract]; omega
theorem data_ (s : ByteArray) : Fnc Tryz.prog 76 [.string s] [] (Ret (.string (dat48 s)) []) := by
 by_cases h : s.size ≤ 48
 · have h1 := Be.full01 s 48 (by omega) (by omega)
   unfold dat48
   rw [if_pos h]
   refine fn_intro Tryz.func76 (by kernel_rfl) ?_
   repeat' ((conv => whnf); first
    | refine call_val h1 ?_ | (refine ifs (fun h => ?_) (fun h => ?_) <;> try (exfalso; first | omega | with_reducible first | contradiction | exact h rfl)))
   all_goals (conv => whnf)
   all_goals exact fin_nil ⟨rfl, rfl⟩
 · unfold dat48
   rw [if_neg h]
   refine fn_intro Tryz.func76 (by kernel_rfl) ?_
   repeat' ((conv => whnf); first
    | refine sv_eq (a := s.extract 0 48) rfl ?_ | refine need ⟨by omega, by omega⟩ ?_ | (refine ifs (fun h => ?_) (fun h => ?_) <;> try (exfalso; first | omega | with_reducible first | contradiction | exact h rfl)))
   all_goals (conv => whnf)
   all_goals exact fin_nil ⟨rfl, rfl⟩
def intL (l : List Int) : List Value := l.map fun n => .int .i64 n
theorem intL_len (l : List Int) : (intL l).length = l.length := by unfold intL; simp
theorem intL_snoc (l : List Int) (n : Int) : intL l ++ [.int .i64 n] = intL (l ++ [n]) := by unfold intL; simp
theorem has_no (O : Own) (l : List Int) (n : Int) (hO : O.ok 1 l.length (intL l)) (hn : ∀ x ∈ l, x ≠ n) (hl : l.length ≤ 1099511627776) : Fnc Tryz.prog 138 [O.val l.length, .int .i64 n] (O.blk 3 (intL l)) (Ret (.bool false) (O.blk 3 (intL l))) := by
 rcases O with _ | ⟨g, cap, jk⟩
 · have h0 : l.length = 0 := hO.2
   have h1 : l = [] := List.eq_nil_of_length_eq_zero h0
   subst h1
   refine fn_intro Tryz.func138 (by kernel_rfl) ?_
   repeat' ((conv => whnf); first
    | fail)
   all_goals (conv => whnf)
   refine loop_rule [5] (fun vs M m => vs = [.int .i64 0] ∧ m = 0 ∧ M = []) rfl ?_ ?_
   · exact fin_nil ⟨0, rfl, rfl, rfl⟩
   rintro vs junk M' m ⟨rfl, rfl, rfl⟩
   repeat' ((conv => whnf); first
    | (refine ifs (fun h => ?_) (fun h => ?_) <;> try (exfalso; first | omega | with_reducible first | contradiction | exact h rfl)))
   all_goals (conv => whnf)
   all_goals exact fin_nil ⟨rfl, rfl⟩
 · have hc := hO.2
   refine fn_intro Tryz.func138 (by kernel_rfl) ?_
   repeat' ((conv => whnf); first
    | fail)
   all_goals (conv => whnf)
   refine loop_rule [5] (fun vs M m => ∃ k : Nat, vs = [.int .i64 k] ∧ k ≤ l.length ∧ m = l.length - k ∧ M = [⟨g, .row (intL l ++ jk) 3⟩]) rfl ?_ ?_
   · exact fin_all ⟨_, 0, rfl, Nat.zero_le _, rfl, rfl⟩
   rintro vs junk M' m ⟨k, rfl, hk, rfl, rfl⟩
   by_cases hk9 : k < l.length
   · have hm : l[k] ≠ n := hn _ (List.getElem_mem hk9)
     have hg : (intL l ++ jk)[k]? = some (.int .i64 l[k]) := by
      rw [List.getElem?_append_left (by rw [intL_len]; exact hk9)]
      unfold intL; rw [List.getElem?_map, List.getElem?_eq_getElem hk9]; rfl
     obtain ⟨x, ex⟩ : ∃ x, x = l[k] := ⟨_, rfl⟩
     rw [← ex] at hm hg
     repeat' ((conv => whnf); first
      | refine ld1_row (n := g) hg ?_ | (refine nv (fun z hz => ?_); (try simp at hz); replace hz := hz.symm; subst hz) | refine need (by omega) ?_ | (refine wr (fun z hz => ?_); (try rw [Int.tdiv_eq_ediv_of_nonneg (by omega)] at hz); rw [w64 (by omega) (by omega)] at hz; subst hz) | (refine ifs (fun h => ?_) (fun h => ?_) <;> try (exfalso; first | omega | with_reducible first | contradiction | exact h rfl)))
     all_goals (conv => whnf)
     all_goals exact ⟨rfl, fin_all ⟨l.length - (k + 1), by omega, k + 1, rfl, by omega, rfl, rfl⟩⟩
   · repeat' ((conv => whnf); first
      | (refine ifs (fun h => ?_) (fun h => ?_) <;> try (exfalso; first | omega | with_reducible first | contradiction | exact h rfl)))
     all_goals (conv => whnf)
     all_goals exact fin_all ⟨rfl, rfl⟩
end Ad
namespace Ad
open Go Ev Sha Aes Orc Node Rec Chn Jrn Cau Sto Srt Stg Wld Bgn Ivs Ctr Aut Cmt
open Rig (Fnc_takeR RigP Rg rgM z64 app_of RigA crR)
open Tree (TreP TreA Tre treM TI Same updB)
noncomputable def dz (f0 f1 : Nat → ByteArray) : Nat → ByteArray := fun i => if i < 64 then dat (keyT keyS) (f0 i) else dat (keyT keyS) (f1 (i - 64))
theorem dz_at (f0 f1 : Nat → ByteArray) {d : Int} {l : Nat} (hd : d = 0 ∨ d = 1) (hl : l < 64) : dz f0 f1 (64 * d.toNat + l) = dat (keyT keyS) (fs f0 f1 d l) := by
 unfold dz
 rcases hd with rfl | rfl
 · rw [if_pos (by omega)]
   show dat _ (f0 (64 * 0 + l)) = dat _ (f0 l)
   rw [show 64 * 0 + l = l by omega]
 · rw [if_neg (by omega)]
   show dat _ (f1 (64 * 1 + l - 64)) = dat _ (f1 l)
   rw [show 64 * 1 + l - 64 = l by omega]
theorem dz_up (f0 f1 : Nat → ByteArray) {d : Int} {l : Nat} (hd : d = 0 ∨ d = 1) (hl : l < 64) {q s : ByteArray} (hq : dat (keyT keyS) q = s) : updB (dz f0 f1) (64 * d.toNat + l) s = dz (up0 f0 d l q) (up1 f1 d l q) := by
 funext i
 unfold updB dz up0 up1
 rcases hd with rfl | rfl
 · rw [if_pos rfl, if_pos rfl]
   unfold updB
   show (if i = 64 * 0 + l then s else _) = _
   by_cases h : i = l
   · subst h
     rw [if_pos (by omega), if_pos hl, if_pos rfl, hq]
   · rw [if_neg (by omega)]
     by_cases h6 : i < 64
     · rw [if_pos h6, if_pos h6, if_neg h]
     · rw [if_neg h6, if_neg h6]
 · rw [if_neg (show ¬ (1 : Int) = 0 by decide), if_neg (show ¬ (1 : Int) = 0 by decide)]
   unfold updB
   show (if i = 64 * 1 + l then s else _) = _
   by_cases h : i = 64 + l
   · rw [if_pos (by omega), if_neg (by omega), if_pos (by omega), hq]
   · rw [if_neg (by omega)]
     by_cases h6 : i < 64
     · rw [if_pos h6, if_pos h6]
     · rw [if_neg h6, if_neg h6, if_neg (by omega)]
theorem fb_sz {f : Nat → ByteArray} (h : FB f) {l : Nat} (hl : l < 64) : (f l).size = 64 := by
 rcases h l hl with e | k
 · rw [e]; exact z64_size
 · exact k.1
structure AW (a : RigA) (A : StoA) (on : Nat) (S : Sy) (f0 f1 g0 g1 : Nat → ByteArray) (m b : Nat) (N : Int) (E c : Nat) (many : Int) (Sn : List Int) : Prop where
 wk : WK a A on S f0 f1 m b N g0 g1
 fb : FB f0 ∧ FB f1
 gb : FB g0 ∧ FB g1
 su : SuI S.V.super S.V.g0 S.V.g1 S.V.g2 z32
 mn : S.v.x.many = many ∧ S.V.g2 = many
 ep : 0 ≤ S.V.is.ep ∧ S.V.is.ep ≤ E
 key : S.v.k = keyT keyS
 sn : ∀ n ∈ Sn, 0 ≤ n ∧ n < S.v.x.next
 ln : Sn.length ≤ c
 vn : S.v.n ≤ c
noncomputable def awM (a : RigA) (on wn : Nat) (A : StoA) (B : VA) (S : Sy) (F G : Nat → ByteArray) (O : Own) (Sn : List Int) : List Blk := wsB wn a.rn on (some ⟨B.vn, 0, none⟩) F G (O.val Sn.length) :: (O.blk 3 (intL Sn) ++ syM a A B S)
attribute [local irreducible] wdS syM z64 updB sealB z48
variable {a : RigA} {A : StoA} {B : VA} {on wn : Nat} {S : Sy} {f0 f1 g0 g1 F G : Nat → ByteArray} {m b c : Nat} {N : Int} {many : Int} {Sn : List Int} {O : Own}
theorem note_ (h : WK a A on S f0 f1 m b N g0 g1) {d : Int} {l : Nat} (hd : d = 0 ∨ d = 1) (hl : l < 64) (hz : fs f0 f1 d l ≠ z64) (hb : b ≤ 1099511610000) {u : Int} (hk : kdOk (fs f0 f1 d l)) (hN : kdN (fs f0 f1 d l) = u) (hK : kdK (fs f0 f1 d l) = 1)
 (hn : ∀ x ∈ Sn, x ≠ u) (hO : O.ok 1 Sn.length (intL Sn)) (hL : Sn.length ≤ 100) :
 Fnc Tryz.prog 77 [pt wn, .int .i64 d, .int .i64 l] (awM a on wn A B S F G O Sn)
  (fun e M => ∃ S' O', (WK a A on S' f0 f1 m (b + 7) N g0 g1 ∧ S'.v = S.v ∧ Sm S.V S'.V) ∧ O'.ok 1 (Sn ++ [u]).length (intL (Sn ++ [u])) ∧ e = .returned (.bool true) ∧ M = awM a on wn A B S' F G O' (Sn ++ [u])) := by
 have h1 := w_store (a := a) (A := A) (B := B) (S := S)
 have h2 := w_getK (B := B) h hd hl hz hb
 have h3 := kind5 (fs f0 f1 d l) (by rw [hk.1]; omega)
 have h4 := has_no O Sn u hO hn (by omega)
 have hkb : kdB (fs f0 f1 d l) = true := by unfold kdB; rw [if_pos hk]
 rw [hN, hK, hkb] at h3
 obtain ⟨q, eq⟩ : ∃ q, q = fs f0 f1 d l := ⟨_, rfl⟩
 rw [← eq] at h2 h3
 unfold awM
 refine fn_intro Tryz.func77 (by kernel_rfl) ?_
 repeat' ((conv => whnf); first
  | refine ld1_row (n := wn) wdS_2 ?_ | refine ld1_row (n := wn) wdS_sv ?_ | refine call_gr h1 (.one takeE) ?_ | (refine call_a h2 (.one takeE) (fun S1 hS1 => ?_)) | refine call_val h3 ?_ | refine call_gr h4 (.one takeE) ?_ | (refine app_cells (S := O) (n := Sn.length) (m := 1) (e := 3) (xs := intL Sn) (news := [.int .i64 u]) rfl rfl rfl rfl rfl hO rfl (by intro u hu; simp only [List.mem_singleton] at hu; subst hu; rfl) (by show (Sn.length + 1) * 8 ≤ _; omega) (by omega) cells_at (fun S' hS' => ?_); rw [intL_snoc] at hS' ⊢) | refine ss_sv ?_ | refine nw (fun n => ?_) | refine bld ?_ | refine need (by first | rfl | omega) ?_ | (refine ifs (fun h => ?_) (fun h => ?_) <;> try (exfalso; first | omega | with_reducible first | contradiction | exact h rfl)))
 all_goals (conv => whnf)
 all_goals exact fin_g (A := ⟨wn, _⟩ :: (Own.blk S' _ _ ++ syM a A B S1)) (.blk takeC (.grp takeE (.one takeE))) ⟨S1, S', hS1, by rw [List.length_append]; exact hS', rfl, by rw [List.length_append]; rfl⟩
end Ad
namespace Ad
open Go Ev Sha Aes Orc Node Rec Chn Jrn Cau Sto Srt Stg Wld Bgn Ivs Ctr Aut Cmt
open Rig (Fnc_takeR RigP Rg rgM z64 app_of RigA crR)
open Tree (TreP TreA Tre treM TI Same updB)
attribute [local irreducible] wdS syM sysM z64 updB sealB z48 rowS dz keyT Bgn.keyS crR
variable {a : RigA} {A : StoA} {B : VA} {on wn : Nat} {S : Sy} {f0 f1 g0 g1 F G : Nat → ByteArray} {m b E c : Nat} {N : Int} {many : Int} {Sn : List Int} {O : Own}
theorem AW.mono (h : AW a A on S f0 f1 g0 g1 m b N E c many Sn) {m' b' : Nat} {N' : Int} {E' c' : Nat} (hm : m ≤ m') (hb : b ≤ b') (hN : N ≤ N') (hE : E ≤ E') (hc : c ≤ c') : AW a A on S f0 f1 g0 g1 m' b' N' E' c' many Sn := by
 have h1 := h.wk.wj.wi.sh0
 have h2 := h.wk.wj.wi.sh1
 have h3 := h.wk.wj.wi.cnt.2
 have h4 := h.ep
 have h5 := h.ln
 have h6 := h.vn
 exact ⟨h.wk.less (by omega) (by omega) (by omega) hb hN, h.fb, h.gb, h.su, h.mn, ⟨h4.1, by omega⟩, h.key, h.sn, by omega, by omega⟩
theorem again_ (h_ : AW a A on S f0 f1 g0 g1 m b N E c many Sn) (hm : 1 ≤ many ∧ many ≤ 1099511627776) (hE : E ≤ 100) (hN : N ≤ 1000) (hb : b ≤ 1000000) :
 Fnc Tryz.prog 79 [pt wn] (awM a on wn A B S F G O Sn)
  (fun e M => ∃ A' B' S', AW a A' on S' g0 g1 g0 g1 0 (b + 204) N (E + 1) c many Sn ∧ e = .returned (.bool true) ∧ M = awM a on wn A' B' S' G G O Sn) := by
 have hon := h_.wk.wj.wi.on
 have hep := h_.ep
 have h1 := w_crash h_.wk
 have h2 := w_open h_.wk (by rw [h_.mn.1, h_.mn.2]) h_.su ⟨hep.1, by omega⟩ (by omega) (by omega)
 have h3 := key_
 have hsy : syM a A B S = sysM a S.r S.o A S.V ++ vM B A.sn S.v := by unfold syM; rfl
 have hrow := h_.wk.wj.wi.vok.row
 have htop := h_.wk.wj.wi.vok.top
 unfold rowOk at hrow
 have hmn := h_.mn
 unfold awM
 rw [hsy]
 refine fn_intro Tryz.func79 (by kernel_rfl) ?_
 repeat' ((conv => whnf); first
  | refine draw_any 2 [(0, true), (1, true), (2, true), (4, true), (5, true), (6, true), (3, true), (7, false), (8, false), (9, true), (10, true), (11, true), (12, true), (13, true), (14, true), (15, true)] [⟨wn, _⟩] rfl (by kernel_rfl) (kept_of (.cons takeC .nil) ?_) | refine kept_of (.cons takeC .nil) ?_ | refine fld1_row (n := wn) wdS_0 ?_ | refine ld1_row (n := wn) wdS_0 ?_ | refine ld1_row (n := wn) wdS_1 ?_ | refine call_gr h1 (.one takeE) ?_ | (refine call_g h2 (.one takeE) (fun e A' hq => ?_); obtain ⟨s, r1, o1, hw, e1, e2⟩ := hq; subst e1; subst e2) | refine call_val h3 ?_ | refine bld ?_)
 all_goals (conv => whnf)
 have hg2 : s.V.g2 = many := by rw [hw.g.2.2.1]; exact hmn.2
 have hiv : s.V.is.iv = S.v.x.top := by rw [hw.iv]; exact htop
 have h4 := w_new (a := a) (A := s.A) (r := r1) (o := o1) (V := s.V) keyS_size (by rw [hg2, hiv]; omega)
 repeat' ((conv => whnf); first
  | (refine call_g h4 (.one takeE) (fun e A' hq => ?_); obtain ⟨B1, e1, e2⟩ := hq; subst e1; subst e2) | refine ss_v ?_ | refine ss_f ?_ | refine ldN_row (n := wn) _ wdS_o (rowS_len _) ?_ | refine force_of ?_ | (refine need ?_ ?_; exact rowS_len _) | refine need (by first | rfl | omega) ?_ | (refine ifs (fun h => ?_) (fun h => ?_) <;> try (exfalso; first | omega | with_reducible first | contradiction | exact h rfl)))
 all_goals (conv => whnf)
 have hk := hw.wk (keyT Bgn.keyS) (by8_keyT _)
 have haw : AW a s.A on ⟨r1, o1, s.V, ⟨keyT Bgn.keyS, ⟨s.V.is.iv, s.V.is.iv, s.V.g2⟩, 0⟩⟩ g0 g1 g0 g1 0 (b + 204) N (E + 1) c many Sn :=
  ⟨hk, h_.gb, h_.gb, by
    show SuI s.V.super s.V.g0 s.V.g1 s.V.g2 z32
    rw [hw.g.1, hw.g.2.1, hw.g.2.2.1, hw.g.2.2.2]; exact h_.su, ⟨hg2, hg2⟩, by
    show 0 ≤ s.V.is.ep ∧ s.V.is.ep ≤ _
    rw [hw.ep]; omega, rfl, fun n hn => by
    have := h_.sn n hn
    show 0 ≤ n ∧ n < s.V.is.iv
    rw [hiv]; omega, h_.ln, by show (0 : Int) ≤ c; omega⟩
 all_goals exact fin_g (A := ⟨wn, _⟩ :: (Own.blk O _ _ ++ syM a s.A B1 _)) (.blk takeC (.grp takeE (.one takeE))) ⟨s.A, B1, _, haw, rfl, rfl⟩
end Ad
namespace Ad
open Go Ev Sha Aes Orc Node Rec Chn Jrn Cau Sto Srt Stg Wld Bgn Ivs Ctr Aut Cmt
open Rig (Fnc_takeR RigP Rg rgM z64 app_of RigA crR)
open Tree (TreP TreA Tre treM TI Same updB)
variable {a : RigA} {A : StoA} {B : VA} {on wn : Nat} {S : Sy} {f0 f1 g0 g1 F G : Nat → ByteArray} {m b E c : Nat} {N : Int} {many : Int} {Sn : List Int} {O : Own}
theorem fs_up (f0 f1 : Nat → ByteArray) {d : Int} (hd : d = 0 ∨ d = 1) (l : Nat) (q : ByteArray) : fs (up0 f0 d l q) (up1 f1 d l q) d l = q := by
 rcases hd with rfl | rfl
 · show updB f0 l q l = q
   unfold updB; rw [if_pos rfl]
 · show updB f1 l q l = q
   unfold updB; rw [if_pos rfl]
theorem fb_up {f0 f1 : Nat → ByteArray} (h : FB f0 ∧ FB f1) {d : Int} {l : Nat} {q : ByteArray} (hq : q = z64 ∨ kdOk q) : FB (up0 f0 d l q) ∧ FB (up1 f1 d l q) := by
 unfold up0 up1
 split
 · exact ⟨h.1.upd l hq, h.2⟩
 · exact ⟨h.1, h.2.upd l hq⟩
theorem numV_g (V : StoV) (x : RwP) : (numV V x).g0 = V.g0 ∧ (numV V x).g1 = V.g1 ∧ (numV V x).g2 = V.g2 ∧ (numV V x).super = V.super ∧ (numV V x).is.ep = V.is.ep := by
 unfold numV
 split
 · exact ⟨rfl, rfl, rfl, rfl, rfl⟩
 · exact ⟨rfl, rfl, rfl, rfl, rfl⟩
theorem kd_seal (h : AW a A on S f0 f1 g0 g1 m b N E c many Sn) (hn : S.v.x.next < S.v.x.many) {s : ByteArray} (hs : s.size = 48) : kdOk (sealB S.v s) ∧ kdN (sealB S.v s) = S.v.x.next ∧ kdK (sealB S.v s) = 1 ∧ dat (keyT Bgn.keyS) (sealB S.v s) = s := by
 have hv := h.wk.wj.wi.vok
 have hk := sealB_ok hv hn hs
 have hnum := num_ok hv hn
 obtain ⟨h1, h2, h3, h4⟩ := layB_ok hnum (.inl rfl) (cry_size S.v.k S.v.x.next s hs)
 have e : sealB S.v s = layB S.v.x.next 1 (cry S.v.k S.v.x.next s) := by unfold sealB; rfl
 refine ⟨hk, ?_, ?_, ?_⟩
 · unfold kdN; rw [if_pos hk, e, h2]
 · unfold kdK; rw [if_pos hk, e, h3]; rfl
 · rw [← h.key]; exact dat_seal h.wk.wj.wi hn hs
theorem _root_.Go.Proofs.YtkjamonkohpcnaaGreat.Wld.Sm.trans' {x : RwP} {V V' V'' : StoV} (h : Sm (numV V x) V') (k : Sm V' V'') : V''.g0 = V.g0 ∧ V''.g1 = V.g1 ∧ V''.g2 = V.g2 ∧ V''.super = V.super ∧ V''.is.ep = V.is.ep := by
 obtain ⟨n0, n1, n2, n3, n4⟩ := numV_g V x
 exact ⟨k.g0.trans (h.g0.trans n0), k.g1.trans (h.g1.trans n1), k.g2.trans (h.g2.trans n2), k.s.trans (h.s.trans n3), by rw [k.i, h.i, n4]⟩
theorem aw_w {F0 F1 : Nat → ByteArray} {S3 : Sy} {b1 b2 : Nat} (h : AW a A on S f0 f1 g0 g1 50 b N E c many Sn) (hn : S.v.x.next < S.v.x.many) (k : WK a A on S3 F0 F1 58 b1 N g0 g1) (hv : S3.v = sealX S.v)
 (hg : S3.V.g0 = S.V.g0 ∧ S3.V.g1 = S.V.g1 ∧ S3.V.g2 = S.V.g2 ∧ S3.V.super = S.V.super ∧ S3.V.is.ep = S.V.is.ep) (hf : FB F0 ∧ FB F1) (hb : b1 ≤ b2) {N2 : Int} (hN : N ≤ N2) : AW a A on S3 F0 F1 g0 g1 58 b2 N2 (E + 1) (c + 1) many (Sn ++ [S.v.x.next]) := by
 obtain ⟨k0, k1, k2, k3, k4⟩ := hg
 have hl := h.ln
 have hep := h.ep
 have h1 := k.wj.wi.sh0
 have h2 := k.wj.wi.sh1
 have h3 := k.wj.wi.cnt.2
 have hc := h.vn
 have hrow := h.wk.wj.wi.vok.row
 unfold rowOk at hrow
 have e1 : S3.v.x.next = S.v.x.next + 1 := by rw [hv]; rfl
 have e2 : S3.v.n = S.v.n + 1 := by rw [hv]; rfl
 exact ⟨k.less h1 h2 h3 hb hN, hf, h.gb, by rw [k0, k1, k2, k3]; exact h.su, by rw [hv, k2]; exact h.mn, by rw [k4]; omega, by rw [hv]; exact h.key, fun n hn => by
  rw [e1]
  rcases List.mem_append.1 hn with h4 | h4
  · have := h.sn n h4; omega
  · rw [List.mem_singleton.1 h4]; omega, by rw [List.length_append]; show Sn.length + 1 ≤ _; omega, by rw [e2]; omega⟩
attribute [local irreducible] wdS syM sysM z64 updB sealB z48 rowS dz keyT Bgn.keyS crR dat48
abbrev actV (k d l e t : Int) (s : ByteArray) : Value := .agg #[.int .i64 k, .int .i64 d, .int .i64 l, .int .i64 e, .int .i64 t, .string s]
def DoQ (a : RigA) (on wn : Nat) (b E c : Nat) (N : Int) (many : Int) : Ending → List Blk → Prop := fun e M =>
 ∃ A B S f0 f1 g0 g1 O Sn, AW a A on S f0 f1 g0 g1 58 (b + 300) (N + 2) (E + 1) (c + 1) many Sn ∧ O.ok 1 Sn.length (intL Sn) ∧ e = .returned (.bool true) ∧ M = awM a on wn A B S (dz f0 f1) (dz g0 g1) O Sn
theorem aw_com (h : AW a A on S f0 f1 g0 g1 m b N E c many Sn) {A' : StoA} {S' : Sy} (hw : WK a A' on S' f0 f1 m (b + 6) (N + 1) f0 f1) (k : CmW a on S f0 f1 m b N A' S') (hc : c ≤ 50) : AW a A' on S' f0 f1 f0 f1 50 (b + 6) (N + 1) E c many Sn := by
 have hv := h.vn
 obtain ⟨k0, k1, k2, k3⟩ := k.g
 exact ⟨hw.less (by rw [k.e0]; exact Nat.zero_le _) (by rw [k.e1]; exact Nat.zero_le _) (by rw [k.v]; omega) (Nat.le_refl _) (Int.le_refl _), h.fb, h.fb, by rw [k0, k1, k2, k3]; exact h.su, by rw [k.v, k2]; exact h.mn, by rw [k.ep]; exact h.ep, by rw [k.v]; exact h.key, by rw [k.v]; exact h.sn, h.ln, by rw [k.v]; exact hv⟩
theorem aw_50 (h : AW a A on S f0 f1 g0 g1 m b N E c many Sn) (h0 : S.V.t0.sheet.length ≤ 50) (h1 : S.V.t1.sheet.length ≤ 50) (hc : c ≤ 50) : AW a A on S f0 f1 g0 g1 50 (b + 6) (N + 1) E c many Sn := by
 have hv := h.vn
 exact ⟨h.wk.less h0 h1 (by omega) (by omega) (by omega), h.fb, h.gb, h.su, h.mn, h.ep, h.key, h.sn, h.ln, hv⟩
theorem do_w (h_ : AW a A on S f0 f1 g0 g1 58 b N E c many Sn) (hc : c ≤ 50) (hN : N ≤ 1000) (hb : b ≤ 1000000) (hO : O.ok 1 Sn.length (intL Sn)) {k d e t : Int} {l : Nat} {s : ByteArray} (hd : d = 0 ∨ d = 1) (hl : l < 64) (hk : k = 0 ∨ k = 1 ∨ k = 2) (hn : S.v.x.next < S.v.x.many) :
 Fnc Tryz.prog 31 [pt wn, actV k d l e t s] (awM a on wn A B S (dz f0 f1) (dz g0 g1) O Sn) (DoQ a on wn b E c N many) := by
 have w1 := w_store (a := a) (A := A) (B := B) (S := S)
 have w2 := w_wait0 (a := a) (A := A) (B := B) (S := S)
 have w3 := w_wait1 (a := a) (A := A) (B := B) (S := S)
 have w4 := w_commitK (B := B) h_.wk (by omega) (by omega) (by omega)
 have w5 := data_ s
 have hs48 := dat48_size s
 unfold awM
 rcases hk with rfl | rfl | rfl
 all_goals rcases (show 50 < S.V.t0.sheet.length ∨ (S.V.t0.sheet.length ≤ 50 ∧ 50 < S.V.t1.sheet.length) ∨ (S.V.t0.sheet.length ≤ 50 ∧ S.V.t1.sheet.length ≤ 50) by omega) with p1 | ⟨p1, p2⟩ | ⟨p1, p2⟩
 all_goals
  refine fn_intro Tryz.func31 (by kernel_rfl) ?_
  repeat' ((conv => whnf); first
   | refine ld1_row (n := wn) wdS_2 ?_ | refine call_gr w1 (.one takeE) ?_ | refine call_gr w2 (.one takeE) ?_ | refine call_gr w3 (.one takeE) ?_ | refine ldN_row (n := wn) _ wdS_m (rowS_len _) ?_ | refine force_of ?_ | (refine need ?_ ?_; exact rowS_len _) | refine ss_o ?_ | (refine call_g w4 (.one takeE) (fun e A' hq => ?_); obtain ⟨A1, S1, a1, ⟨k1, k2⟩, e1, e2⟩ := hq; subst e1; subst e2) | refine call_val w5 ?_ | refine ld1_lit ?_ | refine nw (fun n => ?_) | (refine ifs (fun h => ?_) (fun h => ?_) <;> try (exfalso; first | omega | with_reducible first | contradiction | exact h rfl)))
  all_goals (conv => whnf)
  all_goals first
   | (have hw := aw_com h_ k1 k2 hc; have hn1 : S1.v.x.next < S1.v.x.many := (by rw [k2.v]; exact hn)) | (have hw := aw_50 h_ p1 p2 hc; have hn1 := hn; rename StoA => A1; rename Sy => S1)
  all_goals
   have c1 := w_writeK (B := B) hw.wk hd hl hs48 hn1 (by omega) (by omega)
   have hq := kd_seal hw hn1 hs48
   obtain ⟨q, eq⟩ : ∃ q, q = sealB S1.v (dat48 s) := ⟨_, rfl⟩
   rw [← eq] at c1 hq
   have hfs := fs_up f0 f1 hd l q
   have hdz := dz_up f0 f1 hd hl hq.2.2.2
  all_goals
   repeat' ((conv => whnf); first
    | refine draw_any 10 [(0, true), (1, true), (2, true), (4, true), (6, true), (8, true), (3, true), (5, true), (7, false), (9, false), (10, true)] [⟨wn, _⟩, ⟨n, _⟩] rfl (by kernel_rfl) (kept_of (.cons takeC (.cons takeC .nil)) ?_) | refine draw_any 13 [(0, true), (1, true), (3, true), (5, true), (6, true), (7, true), (2, true), (8, true), (4, false), (9, true), (10, false)] [⟨n, _⟩] rfl (by kernel_rfl) (kept_of (.cons takeC .nil) ?_) | refine kept_of (.cons takeC (.cons takeC .nil)) ?_ | refine kept_of (.cons takeC .nil) ?_ | refine fld1_row (n := wn) wdS_2 ?_ | refine fld1 ?_ | refine call_a c1 (.one takeE) (fun S2 hS2 => ?_) | refine ss_m (i := 64 * d.toNat + l) (by omega) (by omega) ?_ | (refine nv (fun z hz => ?_); (try simp at hz); replace hz := hz.symm; subst hz) | refine need (by omega) ?_ | refine ld1_lit ?_ | refine need (by first | rfl | omega) ?_ | (refine ifs (fun h => ?_) (fun h => ?_) <;> try (exfalso; first | omega | with_reducible first | contradiction | exact h rfl)))
   all_goals (conv => whnf)
  all_goals
   obtain ⟨j1, j2, j3⟩ := hS2
   have hlt : ∀ x ∈ Sn, x ≠ S1.v.x.next := fun x hx => by have := hw.sn x hx; omega
   have c2 := fun F G => note_ (B := B) (wn := wn) (F := F) (G := G) j1 hd hl (by rw [hfs]; exact kd_z hq.1) (by omega) (by rw [hfs]; exact hq.1) (by rw [hfs]; exact hq.2.1) (by rw [hfs]; exact hq.2.2.1) hlt hO (by have := hw.ln; omega)
   unfold awM at c2
   rw [hdz]
   repeat' ((conv => whnf); first
    | (refine call_g (c2 _ _) (.blk takeC (.grp takeE (.one takeE))) (fun e A' hq2 => ?_); obtain ⟨S3, O3, ⟨i1, i2, i3⟩, i4, e1, e2⟩ := hq2; subst e1; subst e2))
   all_goals (conv => whnf)
   all_goals exact fin_g (A := ⟨wn, _⟩ :: (Own.blk O3 _ _ ++ syM a A1 B S3)) (.blk takeC (.grp takeE (.one takeE))) ⟨A1, B, S3, _, _, _, _, O3, _, aw_w (b2 := b + 300) (N2 := N + 2) hw hn1 i1 (i2.trans j2) (j3.trans' i3) (fb_up hw.fb (.inr hq.1)) (by omega) (by omega), i4, rfl, rfl⟩
end Ad
namespace Ad
open Go Ev Sha Aes Orc Node Rec Chn Jrn Cau Sto Srt Stg Wld Bgn Ivs Ctr Aut Cmt
open Rig (Fnc_takeR RigP Rg rgM z64 app_of RigA crR)
open Tree (TreP TreA Tre treM TI Same updB)
variable {a : RigA} {A : StoA} {B : VA} {on wn : Nat} {S : Sy} {f0 f1 g0 g1 F G : Nat → ByteArray} {m b E c : Nat} {N : Int} {many : Int} {Sn : List Int} {O : Own}
theorem aw_k {F0 F1 : Nat → ByteArray} {S3 : Sy} {m1 b1 b2 : Nat} {N2 : Int} (h : AW a A on S f0 f1 g0 g1 50 b N E c many Sn) (k : WK a A on S3 F0 F1 m1 b1 N g0 g1) (hv : S3.v = S.v) (hs : Sm S.V S3.V) (hf : FB F0 ∧ FB F1) (hm : m1 ≤ 58) (hb : b1 ≤ b2) (hN : N ≤ N2) : AW a A on S3 F0 F1 g0 g1 58 b2 N2 (E + 1) (c + 1) many Sn := by
 have hl := h.ln
 have hep := h.ep
 have h1 := k.wj.wi.sh0
 have h2 := k.wj.wi.sh1
 have h3 := k.wj.wi.cnt.2
 have hc := h.vn
 exact ⟨k.less (by omega) (by omega) (by omega) hb hN, hf, h.gb, by rw [hs.g0, hs.g1, hs.g2, hs.s]; exact h.su, by rw [hv, hs.g2]; exact h.mn, by rw [hs.i]; omega, by rw [hv]; exact h.key, by rw [hv]; exact h.sn, by omega, by rw [hv]; omega⟩
theorem wdS_a {rn on : Nat} {vp : Option Addr} {f g : Nat → ByteArray} {sv : Value} {i j : Nat} (hj : j = 3 + i) (h : i < 128) : (wdS rn on vp f g sv)[j]? = some (.string (f i)) := by
 subst hj; exact wdS_at h
theorem kd_lay {s : ByteArray} (hs : s.size = 48) : kdOk (layB 0 2 s) ∧ dat (keyT Bgn.keyS) (layB 0 2 s) = s := by
 have hk := (layB_ok num0 (.inr rfl) hs).1
 refine ⟨hk, ?_⟩
 unfold dat
 rw [if_neg (kd_z hk)]
 exact body_plain _ num0 hs
theorem dat_z48 : dat (keyT Bgn.keyS) z64 = z48 := by unfold dat; rw [if_pos rfl]
attribute [local irreducible] wdS syM sysM z64 updB sealB z48 rowS dz keyT Bgn.keyS crR dat48
theorem do_p (h_ : AW a A on S f0 f1 g0 g1 58 b N E c many Sn) (hc : c ≤ 50) (hN : N ≤ 1000) (hb : b ≤ 1000000) (hO : O.ok 1 Sn.length (intL Sn)) {k d e t : Int} {l : Nat} {s : ByteArray} (hd : d = 0 ∨ d = 1) (hl : l < 64) (hk : k = 4) :
 Fnc Tryz.prog 31 [pt wn, actV k d l e t s] (awM a on wn A B S (dz f0 f1) (dz g0 g1) O Sn) (DoQ a on wn b E c N many) := by
 have w1 := w_store (a := a) (A := A) (B := B) (S := S)
 have w2 := w_wait0 (a := a) (A := A) (B := B) (S := S)
 have w3 := w_wait1 (a := a) (A := A) (B := B) (S := S)
 have w4 := w_commitK (B := B) h_.wk (by omega) (by omega) (by omega)
 have w5 := data_ s
 have hs48 := dat48_size s
 unfold awM
 subst hk
 all_goals rcases (show 50 < S.V.t0.sheet.length ∨ (S.V.t0.sheet.length ≤ 50 ∧ 50 < S.V.t1.sheet.length) ∨ (S.V.t0.sheet.length ≤ 50 ∧ S.V.t1.sheet.length ≤ 50) by omega) with p1 | ⟨p1, p2⟩ | ⟨p1, p2⟩
 all_goals
  refine fn_intro Tryz.func31 (by kernel_rfl) ?_
  repeat' ((conv => whnf); first
   | refine ld1_row (n := wn) wdS_2 ?_ | refine call_gr w1 (.one takeE) ?_ | refine call_gr w2 (.one takeE) ?_ | refine call_gr w3 (.one takeE) ?_ | refine ldN_row (n := wn) _ wdS_m (rowS_len _) ?_ | refine force_of ?_ | (refine need ?_ ?_; exact rowS_len _) | refine ss_o ?_ | (refine call_g w4 (.one takeE) (fun e A' hq => ?_); obtain ⟨A1, S1, a1, ⟨k1, k2⟩, e1, e2⟩ := hq; subst e1; subst e2) | refine call_val w5 ?_ | refine ld1_lit ?_ | refine nw (fun n => ?_) | (refine ifs (fun h => ?_) (fun h => ?_) <;> try (exfalso; first | omega | with_reducible first | contradiction | exact h rfl)))
  all_goals (conv => whnf)
  all_goals first
   | (have hw := aw_com h_ k1 k2 hc) | (have hw := aw_50 h_ p1 p2 hc; rename StoA => A1; rename Sy => S1)
  all_goals
   have hq := kd_lay hs48
   have c1 := w_plainK (B := B) hw.wk hd hl hs48 (by omega) (by omega)
   obtain ⟨q, eq⟩ : ∃ q, q = layB 0 2 (dat48 s) := ⟨_, rfl⟩
   rw [← eq] at c1 hq
   have hdz := dz_up f0 f1 hd hl hq.2
   repeat' ((conv => whnf); first
    | refine draw_any 16 [(0, true), (1, true), (3, true), (5, true), (6, true), (7, true), (2, true), (8, true), (4, false), (9, true), (10, false)] [⟨n, _⟩] rfl (by kernel_rfl) (kept_of (.cons takeC .nil) ?_) | refine draw_any 17 [(0, true), (1, true), (2, true), (4, true), (6, true), (8, true), (3, true), (5, true), (7, false), (9, false), (10, true), (11, true)] [⟨wn, _⟩, ⟨n, _⟩] rfl (by kernel_rfl) (kept_of (.cons takeC (.cons takeC .nil)) ?_) | refine kept_of (.cons takeC (.cons takeC .nil)) ?_ | refine kept_of (.cons takeC .nil) ?_ | refine fld1_row (n := wn) wdS_2 ?_ | refine fld1 ?_ | (refine ss_m (i := 64 * d.toNat + l) (by omega) (by omega) ?_; rw [hdz]) | refine call_a c1 (.one takeE) (fun S2 hS2 => ?_) | (refine nv (fun z hz => ?_); (try simp at hz); replace hz := hz.symm; subst hz) | refine need (by omega) ?_ | refine ld1_lit ?_ | refine need (by first | rfl | omega) ?_ | (refine ifs (fun h => ?_) (fun h => ?_) <;> try (exfalso; first | omega | with_reducible first | contradiction | exact h rfl)))
   all_goals (conv => whnf)
   all_goals exact fin_g (A := ⟨wn, _⟩ :: (Own.blk O _ _ ++ syM a A1 B S2)) (.blk takeC (.grp takeE (.one takeE))) ⟨A1, B, S2, _, _, _, _, O, _, aw_k (b2 := b + 300) (N2 := N + 2) hw hS2.1 hS2.2.1 hS2.2.2 (fb_up hw.fb (.inr hq.1)) (by omega) (by omega) (by omega), hO, rfl, rfl⟩
theorem do_x (h_ : AW a A on S f0 f1 g0 g1 58 b N E c many Sn) (hc : c ≤ 50) (hN : N ≤ 1000) (hb : b ≤ 1000000) (hO : O.ok 1 Sn.length (intL Sn)) {k d e t : Int} {l : Nat} {s : ByteArray} (hd : d = 0 ∨ d = 1) (hl : l < 64) (hk : k = 0 ∨ k = 1 ∨ k = 2) (hn : S.v.x.many ≤ S.v.x.next) :
 Fnc Tryz.prog 31 [pt wn, actV k d l e t s] (awM a on wn A B S (dz f0 f1) (dz g0 g1) O Sn) (DoQ a on wn b E c N many) := by
 have w1 := w_store (a := a) (A := A) (B := B) (S := S)
 have w2 := w_wait0 (a := a) (A := A) (B := B) (S := S)
 have w3 := w_wait1 (a := a) (A := A) (B := B) (S := S)
 have w4 := w_commitK (B := B) h_.wk (by omega) (by omega) (by omega)
 have w5 := data_ s
 have hs48 := dat48_size s
 unfold awM
 rcases hk with rfl | rfl | rfl
 all_goals rcases (show 50 < S.V.t0.sheet.length ∨ (S.V.t0.sheet.length ≤ 50 ∧ 50 < S.V.t1.sheet.length) ∨ (S.V.t0.sheet.length ≤ 50 ∧ S.V.t1.sheet.length ≤ 50) by omega) with p1 | ⟨p1, p2⟩ | ⟨p1, p2⟩
 all_goals
  refine fn_intro Tryz.func31 (by kernel_rfl) ?_
  repeat' ((conv => whnf); first
   | refine ld1_row (n := wn) wdS_2 ?_ | refine call_gr w1 (.one takeE) ?_ | refine call_gr w2 (.one takeE) ?_ | refine call_gr w3 (.one takeE) ?_ | refine ldN_row (n := wn) _ wdS_m (rowS_len _) ?_ | refine force_of ?_ | (refine need ?_ ?_; exact rowS_len _) | refine ss_o ?_ | (refine call_g w4 (.one takeE) (fun e A' hq => ?_); obtain ⟨A1, S1, a1, ⟨k1, k2⟩, e1, e2⟩ := hq; subst e1; subst e2) | refine call_val w5 ?_ | refine ld1_lit ?_ | refine nw (fun n => ?_) | (refine ifs (fun h => ?_) (fun h => ?_) <;> try (exfalso; first | omega | with_reducible first | contradiction | exact h rfl)))
  all_goals (conv => whnf)
  all_goals first
   | (have hw := aw_com h_ k1 k2 hc; have hn1 : S1.v.x.many ≤ S1.v.x.next := (by rw [k2.v]; exact hn)) | (have hw := aw_50 h_ p1 p2 hc; have hn1 := hn; rename StoA => A1; rename Sy => S1)
  all_goals
   have c1 := w_write_no (B := B) hw.wk.wj.wi (d := d) (l := l) hn1 hs48
   have hz0 : S1.v.x.many - S1.v.x.next = 0 := by
    have := hw.wk.wj.wi.vok.row
    unfold rowOk at this
    omega
   have c2 := w_left (B := B) hw.wk.wj.wi
   rw [hz0] at c2
   repeat' ((conv => whnf); first
    | refine draw_any 10 [(0, true), (1, true), (2, true), (4, true), (6, true), (8, true), (3, true), (5, true), (7, false), (9, false), (10, true)] [⟨wn, _⟩, ⟨n, _⟩] rfl (by kernel_rfl) (kept_of (.cons takeC (.cons takeC .nil)) ?_) | refine kept_of (.cons takeC (.cons takeC .nil)) ?_ | refine fld1_row (n := wn) wdS_2 ?_ | refine ld1_row (n := wn) wdS_2 ?_ | refine fld1 ?_ | refine call_gr c1 (.one takeE) ?_ | refine call_gr c2 (.one takeE) ?_ | refine ld1_lit ?_ | (refine ifs (fun h => ?_) (fun h => ?_) <;> try (exfalso; first | omega | with_reducible first | contradiction | exact h rfl)))
   all_goals (conv => whnf)
   all_goals exact fin_g (A := ⟨wn, _⟩ :: (Own.blk O _ _ ++ syM a A1 B S1)) (.blk takeC (.grp takeE (.one takeE))) ⟨A1, B, S1, _, _, _, _, O, _, aw_k (b2 := b + 300) (N2 := N + 2) hw hw.wk rfl ⟨rfl, rfl, rfl, rfl, rfl, rfl⟩ hw.fb (by omega) (by omega) (by omega), hO, rfl, rfl⟩
end Ad
end Go.Proofs.YtkjamonkohpcnaaGreat
