/- Texts of this proof, merged. -/
import Derived.Test.YtkjamonkohpcnaaGreatAk23
import Derived.Test.YtkjamonkohpcnaaGreatAk6
import Derived.Test.YtkjamonkohpcnaaGreatAk18
import Derived.Test.YtkjamonkohpcnaaGreatAk9
import Derived.Test.YtkjamonkohpcnaaGreatAk5
set_option linter.unusedVariables false
set_option linter.unusedSimpArgs false
set_option linter.unusedSectionVars false
set_option maxRecDepth 100000
set_option maxHeartbeats 16000000
namespace Go.Proofs.YtkjamonkohpcnaaGreat
namespace Bgn
open Go Ev Sha Aes Orc Node Rec Chn Jrn Cau Sto Ivs Ctr Aut Wld
open Rig (Fnc_takeR RigP Rg rgM z64 app_of RigA r0)
open Tree (TreP TreA Tre treM TI Same updB)
theorem WI.mono {a : RigA} {A : StoA} {on : Nat} {S : Sy} {f0 f1 : Nat → ByteArray} {m b m' b' : Nat} (h : WI a A on S f0 f1 m b) (hm : m ≤ m') (hb : b ≤ b') : WI a A on S f0 f1 m' b' := by
 have h1 := h.sh0
 have h2 := h.sh1
 have h3 := h.len
 have h4 := h.cnt
 exact ⟨h.sok, h.on, h.t0, h.t1, h.d0, h.d1, by omega, by omega, by omega, h.vok, h.key, ⟨h4.1, by omega⟩⟩
theorem fine_0 : Fine r0 := ⟨rfl, rfl, rfl, rfl⟩
theorem rnew' : Fnc Tryz.prog 40 [] [] (fun e A => ∃ a : RigA, e = .returned (pt a.rn) ∧ A = rgM ⟨a, r0⟩) := Rig.rnew
def z32 : ByteArray := str (List.replicate 32 0)
theorem z32_' : Fnc Tryz.prog 39 [.int .i64 32] [] (Ret (.string z32) []) := z32_
noncomputable def sup0 (many : Int) : ByteArray := Geom.supS 64 8 many z32
theorem right0 {many : Int} (h : 1 ≤ many ∧ many ≤ 1099511627776) : Geom.Right 64 8 many := by
 unfold Geom.Right
 omega
theorem fmT_len (super : ByteArray) : (fmT [] super).length ≤ 2022 := by
 unfold fmT
 have h1 := frT_len [] super 0 0
 have h2 := frT_len (frT [] super 0 0) super 1 0
 simp only [List.length_nil] at h1
 omega
theorem mmk_0 : mmk 0 = emp := rfl
theorem st_wi {P : Program} {M : List Blk} {n rn on : Nat} {vp : Option Addr} {f g : Nat → ByteArray} {T : TypeId} {F : Blk → List Blk} {k : List Blk → Prop} [z : Zip M n (.row (wdC rn on vp f g) T) F] {i j : Nat} {s : ByteArray} (hj : j = 3 + i) (hi : i < 128) (hk : k (F ⟨n, .row (wdC rn on vp (updB f i s) g) T⟩)) : StN P M n j [.string s] k := by
 subst hj; exact st_wm hi hk
theorem new_fm (s : Sto) {rn on : Nat} {many : Int} {super : ByteArray} (hV : s.V = fmV0 rn on 64 8 many super) (h : 1 ≤ many ∧ many ≤ 1099511627776) :
 Fnc Tryz.prog 38 [pt s.A.sn, .string keyS] [stB s.A.sn s.c] (fun e A => ∃ B : VA, e = .returned (.tuple #[pt B.vn, .int .i64 0]) ∧ A = vM B s.A.sn ⟨keyT keyS, ⟨0, 0, many⟩, 0⟩ ++ [stB s.A.sn s.c]) := by
 have h1 := new_ok s.A.sn s.c keyS keyS_size (by
  unfold Sto.c; rw [hV]; exact ⟨h.1, h.2, Int.le_refl _, (by show (0 : Int) ≤ many; omega)⟩)
 rw [show s.c.is.iv = 0 by unfold Sto.c; rw [hV]; rfl, show s.c.g2 = many by unfold Sto.c; rw [hV]; rfl] at h1
 exact h1
attribute [local irreducible] stoR Sto.c rgM r0 srF RgV.lay wdC rowS fmR fmT fmV mmk rowK keyT keyS z48 z32 sup0 fmV0
theorem begunF (many : Int) (h_ : 1 ≤ many ∧ many ≤ 1099511627776) :
 Fnc Tryz.prog 28 [.int .i64 many] [] (fun e M => ∃ (wn : Nat) (a : RigA) (A : StoA) (B : VA) (S : Sy) (f g : Nat → ByteArray), WI a A S.o.on S (fun _ => z64) (fun _ => z64) 0 2100 ∧ S.r = fmR r0 (sup0 many) ∧ S.o.ts = fmT [] (sup0 many) ∧ S.V = fmV0 a.rn S.o.on 64 8 many (sup0 many) ∧ S.v = ⟨keyT keyS, ⟨0, 0, many⟩, 0⟩ ∧ f = mmk 64 ∧ g = mmk 64 ∧ e = .returned (pt wn) ∧
  M = wdB wn a.rn S.o.on (some ⟨B.vn, 0, none⟩) f g :: syM a A B S) := by
 have hf : ∀ (a : RigA) (o : Orc), o.ts = [] → Fnc Tryz.prog 42 [pt a.rn, pt o.on, .agg #[.int .i64 64, .int .i64 8, .int .i64 many], .string z32] (rgM ⟨a, r0⟩ ++ orcM o)
  (fun e A => ∃ (s : Sto) (o' : Orc), o'.on = o.on ∧ o'.ts = fmT o.ts (sup0 many) ∧ s.V = fmV0 a.rn o.on 64 8 many (sup0 many) ∧ SOk s a.rn o.on ∧ e = .returned (.tuple #[pt s.A.sn, .int .i64 0]) ∧
    A = rgM ⟨a, fmR r0 (sup0 many)⟩ ++ (orcM o' ++ (stB s.A.sn s.c :: stoR s))) := fun a o ho => by
  have h := format_ ⟨a, r0⟩ o 64 8 many z32 fine_0 (right0 h_) (by unfold z32; rfl) (by rw [ho]; decide)
  rw [show Geom.supS 64 8 many z32 = sup0 many by unfold sup0; rfl] at h
  unfold stoM at h
  exact h
 refine fn_intro Tryz.func28 (by kernel_rfl) ?_
 repeat' ((conv => whnf); first
  | (refine call_g rnew' .nil (fun e A' hq => ?_); obtain ⟨a, a1, a2⟩ := hq; subst a1; subst a2) | (refine call_g onew .nil (fun e A' hq => ?_); obtain ⟨o, b1, b2, b3⟩ := hq; subst b2; subst b3) | refine call_val shape ?_ | refine call_val z32_' ?_ | refine call_val key_ ?_ | refine nw_row (cs' := wdC a.rn o.on none emp emp) (wd0_e _ _) (fun wn => ?_) | refine draw_any 4 [(0, true), (1, true), (2, true), (4, true), (5, true), (6, true), (3, true), (7, true), (8, true), (9, false), (10, false), (11, true), (12, true), (13, true), (14, true), (15, true)] [⟨wn, _⟩, ⟨n, _⟩] rfl (by kernel_rfl) (kept_of (.cons takeC (.cons takeC .nil)) ?_) | refine kept_of (.cons takeC (.cons takeC .nil)) ?_ | refine fld1_row (n := wn) wdC_0 ?_ | refine fld1_row (n := wn) wdC_1 ?_ | refine fldN ?_ | (refine call_g (hf a o b1) (.grp takeG (.one takeG)) (fun e A' hq => ?_); obtain ⟨s, o', c1, c2, c3, c4, c5, c6⟩ := hq; subst c5; subst c6) | (refine call_g (new_fm s c3 h_) (.blk takeC .nil) (fun e A' hq => ?_); obtain ⟨B, d1, d2⟩ := hq; subst d1; subst d2) | refine st_wv ?_ | refine nw (fun n => ?_) | refine bld ?_ | refine st_lit rfl ?_ | refine need (by first | rfl | omega) ?_ | (refine ifs (fun h => ?_) (fun h => ?_) <;> try (exfalso; first | omega | with_reducible first | contradiction | exact h rfl)))
 all_goals (conv => whnf)
 obtain ⟨S, eS⟩ : ∃ S : Sy, S = ⟨fmR r0 (sup0 many), o', s.V, ⟨keyT keyS, ⟨0, 0, many⟩, 0⟩⟩ := ⟨_, rfl⟩
 have hsy : rgM ⟨a, fmR r0 (sup0 many)⟩ ++ (orcM o' ++ (stB s.A.sn s.c :: (stoR s ++ vM B s.A.sn ⟨keyT keyS, ⟨0, 0, many⟩, 0⟩))) = syM a s.A B S := by
  rw [eS]; unfold syM sysM; simp only [List.append_assoc, List.cons_append]
 refine loop_rule [9] (fun vs M m => ∃ (k : Nat), vs = [.int .i64 k] ∧ k ≤ 64 ∧ m = 64 - k ∧ M = wdB wn a.rn o.on (some ⟨B.vn, 0, none⟩) (mmk k) emp :: syM a s.A B S) rfl ?_ ?_
 · exact fin_g (A := wdB wn a.rn o.on _ emp emp :: (rgM ⟨a, fmR r0 (sup0 many)⟩ ++ (orcM o' ++ (stB s.A.sn _ :: (stoR s ++ vM B s.A.sn _))))) (.blk takeC (.grp takeG (.grp takeG (.blk takeC (.grp takeG (.one takeG)))))) ⟨_, 0, rfl, by omega, rfl, by rw [← hsy, mmk_0]⟩
 rintro vs junk M' m ⟨k, rfl, hk, rfl, rfl⟩
 by_cases hk6 : k < 64
 · repeat' ((conv => whnf); first
    | refine draw_any 14 [(0, true), (1, true), (3, true), (4, true), (5, true), (2, false), (6, true), (7, false)] [] rfl (by kernel_rfl) (kept_nil ?_) | refine draw_any 15 [(0, true), (1, true), (3, true), (4, true), (5, true), (2, false), (6, true), (7, false)] [] rfl (by kernel_rfl) (kept_nil ?_) | refine kept_nil ?_ | refine call_val z48_ ?_ | (refine nv (fun z hz => ?_); (try simp at hz); replace hz := hz.symm; subst hz) | refine need (by omega) ?_ | refine st_wi (i := k) (by omega) (by omega) ?_ | refine st_wi (i := 64 + k) (by omega) (by omega) ?_ | refine need (by first | rfl | omega) ?_ | (refine wr (fun z hz => ?_); (try rw [Int.tdiv_eq_ediv_of_nonneg (by omega)] at hz); rw [w64 (by omega) (by omega)] at hz; subst hz) | (refine ifs (fun h => ?_) (fun h => ?_) <;> try (exfalso; first | omega | with_reducible first | contradiction | exact h rfl)))
   all_goals (conv => whnf)
   all_goals exact ⟨rfl, fin_all ⟨64 - (k + 1), by omega, k + 1, rfl, by omega, rfl, by rw [mmk_s]⟩⟩
 obtain rfl : k = 64 := by omega
 repeat' ((conv => whnf); first
  | refine ldN_row (n := wn) _ wdC_m (rowS_len _) ?_ | refine force_of ?_ | (refine need ?_ ?_; exact rowS_len _) | refine st_wo ?_ | (refine ifs (fun h => ?_) (fun h => ?_) <;> try (exfalso; first | omega | with_reducible first | contradiction | exact h rfl)))
 all_goals (conv => whnf)
 have hso : S.o.on = o.on := by rw [eS]; exact c1
 rw [b1] at c2
 have hwi : WI a s.A S.o.on S (fun _ => z64) (fun _ => z64) 0 2100 := by
  rw [hso, eS]
  have h1 := wi_new (k := keyT keyS) (o := o') fine_0 c4 c3 c1 h_ (by8_keyT keyS)
  have h2 := fmT_len (sup0 many)
  exact WI.mono h1 (Nat.le_refl _) (by rw [c2]; omega)
 all_goals exact fin_all ⟨wn, a, s.A, B, S, _, _, hwi, by rw [eS], by rw [eS]; exact c2, by rw [hso, eS]; exact c3, by rw [eS], rfl, rfl, rfl, by rw [hso]⟩
theorem begun_ (many : Int) (h_ : 1 ≤ many ∧ many ≤ 1099511627776) :
 Fnc Tryz.prog 28 [.int .i64 many] [] (fun e M => ∃ (wn : Nat) (a : RigA) (A : StoA) (B : VA) (S : Sy) (f g : Nat → ByteArray), WI a A S.o.on S (fun _ => z64) (fun _ => z64) 0 2100 ∧ S.v.x = ⟨0, 0, many⟩ ∧ S.v.n = 0 ∧ S.V.g2 = many ∧ e = .returned (pt wn) ∧
  M = wdB wn a.rn S.o.on (some ⟨B.vn, 0, none⟩) f g :: syM a A B S) := by
 refine Fnc_mono (begunF many h_) ?_
 rintro e M ⟨wn, a, A, B, S, f, g, h1, h2, h3, h4, h5, h6, h7, h8, h9⟩
 exact ⟨wn, a, A, B, S, f, g, h1, by rw [h5], by rw [h5], by rw [h4]; unfold fmV0; rfl, h8, h9⟩
end Bgn
namespace Bgn
open Go Ev Sha Aes Orc Node Rec Chn Jrn Cau Sto Ivs Ctr Aut Wld
open Rig (Fnc_takeR RigP Rg rgM z64 app_of RigA r0)
open Tree (TreP TreA Tre treM TI Same updB)
theorem Fnc_keep {P : Program} {f : FuncId} {args : List Value} {A M R : List Blk} {v : Value} (h : Fnc P f args A (Ret v A)) (ht : TakesG M A R) : Fnc P f args M (Ret v M) :=
 Fnc_drop (Fnc_takeR h ht) fun e A' ⟨h1, h2⟩ => by subst h2; exact ⟨⟨M, [], by rw [List.append_nil]; exact ht.perm.symm, h1, rfl⟩⟩
section
variable {a : RigA} {A : StoA} {B : VA} {on : Nat} {S : Sy} {f0 f1 : Nat → ByteArray} {m b : Nat}
theorem w_store : Fnc Tryz.prog 21 [pt B.vn] (syM a A B S) (Ret (pt A.sn) (syM a A B S)) := by
 unfold syM vM
 exact Fnc_keep (Aut.store_ B A.sn S.v) (.blk takeC .nil)
theorem w_sealed : Fnc Tryz.prog 72 [pt B.vn] (syM a A B S) (Ret (.int .i64 S.v.n) (syM a A B S)) := by
 unfold syM vM
 exact Fnc_keep (Aut.sealed_ B A.sn S.v) (.blk takeC .nil)
theorem w_left (h : WI a A on S f0 f1 m b) : Fnc Tryz.prog 73 [pt B.vn] (syM a A B S) (Ret (.int .i64 (S.v.x.many - S.v.x.next)) (syM a A B S)) := by
 unfold syM vM
 exact Fnc_keep (Aut.left_ B A.sn S.v h.vok.row) (.blk takeC (.blk takeC .nil))
end
theorem fs_0 (f0 f1 : Nat → ByteArray) : fs f0 f1 0 = f0 := rfl
theorem fs_1 (f0 f1 : Nat → ByteArray) : fs f0 f1 1 = f1 := rfl
theorem up0_0 (f : Nat → ByteArray) (l : Nat) (s : ByteArray) : up0 f 0 l s = updB f l s := rfl
theorem up0_1 (f : Nat → ByteArray) (l : Nat) (s : ByteArray) : up0 f 1 l s = f := rfl
theorem up1_0 (f : Nat → ByteArray) (l : Nat) (s : ByteArray) : up1 f 0 l s = f := rfl
theorem up1_1 (f : Nat → ByteArray) (l : Nat) (s : ByteArray) : up1 f 1 l s = updB f l s := rfl
theorem updB_at (f : Nat → ByteArray) (l : Nat) (s : ByteArray) : updB f l s l = s := by unfold updB; rw [if_pos rfl]
theorem kd_z {s : ByteArray} (h : kdOk s) : s ≠ z64 := by
 rintro rfl
 have h1 := h.2.2.2.1
 have e : byte8 z64 = 0 := by unfold byte8 byteAt z64; rfl
 omega
def a48 : ByteArray := Be.full ⟨#[97]⟩ 48
theorem a48_size : a48.size = 48 := by
 unfold a48 Be.full
 rw [if_neg (by decide), ByteArray.size_append, Ev.str_size]
 rfl
theorem a48_ : Fnc Tryz.prog 19 [.string ⟨#[97]⟩, .int .i64 48] [] (Ret (.string a48) []) := Be.full01 ⟨#[97]⟩ 48 (by decide) (by decide)
def zf : Nat → ByteArray := fun _ => z64
theorem zf_FB : FB zf := fun l _ => .inl rfl
attribute [local irreducible] wdC syM z64 a48 sealB updB
theorem WI.kd {a : RigA} {A : StoA} {on : Nat} {S : Sy} {f0 f1 : Nat → ByteArray} {m b : Nat} (h : WI a A on S f0 f1 m b) (hn : S.v.x.next < S.v.x.many) {s : ByteArray} (hs : s.size = 48) : kdOk (sealB S.v s) := sealB_ok h.vok hn hs
theorem dat_seal {a : RigA} {A : StoA} {on : Nat} {S : Sy} {f0 f1 : Nat → ByteArray} {m b : Nat} (h : WI a A on S f0 f1 m b) (hn : S.v.x.next < S.v.x.many) {s : ByteArray} (hs : s.size = 48) : dat S.v.k (sealB S.v s) = s := by
 have hk := WI.kd h hn hs
 unfold dat
 rw [if_neg (kd_z hk)]
 unfold sealB
 exact body_seal _ (num_ok h.vok hn) hs
theorem awake_ : Fnc Tryz.prog 29 [] [] (Ret (.bool true) []) := by
 have hb := begun_ 100 (by decide)
 refine fn_intro Tryz.func29 (by kernel_rfl) ?_
 repeat' ((conv => whnf); first
  | (refine call_g hb .nil (fun e A' hq => ?_); obtain ⟨wn, a, A, B, S, f, g, w0, x0, n0, z0, e0, m0⟩ := hq; subst e0; subst m0) | refine call_val a48_ ?_)
 all_goals (conv => whnf)
 have hn : S.v.x.next < S.v.x.many := by rw [x0]; decide
 have hkd := WI.kd w0 hn a48_size
 have c1 := w_write (B := B) w0 (d := 0) (l := 5) (s := a48) (.inl rfl) (by omega) a48_size hn (by omega) (by omega)
 have hdat := dat_seal w0 hn a48_size
 obtain ⟨q, eq⟩ : ∃ q, q = sealB S.v a48 := ⟨_, rfl⟩
 rw [← eq] at hkd c1 hdat
 rw [up0_0, up1_0] at c1
 have hq5 := updB_at (fun _ => z64) 5 q
 have hq6 := updB_at (fun _ => z64) 6 q
 have hFB0 : FB (updB (fun _ => z64) 5 q) := zf_FB.upd 5 (.inr hkd)
 have hFB1 : FB (updB (fun _ => z64) 6 q) := zf_FB.upd 6 (.inr hkd)
 obtain ⟨g0, eg0⟩ : ∃ g0, g0 = updB (fun _ => z64) 5 q := ⟨_, rfl⟩
 obtain ⟨g1, eg1⟩ : ∃ g1, g1 = updB (fun _ => z64) 6 q := ⟨_, rfl⟩
 rw [← eg0] at c1 hq5 hFB0
 have c2 : ∀ S1 : Sy, WI a A S.o.on S1 g0 (fun _ => z64) 8 2113 ∧ S1.v = sealX S.v → Fnc Tryz.prog 71 [pt B.vn, .int .i64 0, .int .i64 5, .int .i64 1, .int .i64 6] (syM a A B S1) (AQ a A B (fun S' => WI a A S.o.on S' g0 g1 15 2133 ∧ S'.v = S1.v) (.int .i64 0)) := fun S1 h1 => by
  have := w_copy (B := B) h1.1 (d := 0) (e := 1) (l := 5) (t := 6) (.inl rfl) (by omega) (.inr rfl) (by omega) (by rw [fs_0, hq5]; exact hkd.1) (by omega) (by omega)
  rw [fs_0, hq5, up0_1, up1_1, ← eg1] at this
  exact this
 rw [← eg1] at hq6 hFB1
 have c3 : ∀ S1 : Sy, WI a A S.o.on S1 g0 g1 15 2133 ∧ S1.v = sealX S.v → Fnc Tryz.prog 32 [pt B.vn, .int .i64 1, .int .i64 6] (syM a A B S1) (AQ a A B (fun S' => WI a A S.o.on S' g0 g1 15 2140 ∧ S'.v = S1.v) (.tuple #[.string a48, .int .i64 0])) := fun S1 h1 => by
  have := w_read (B := B) h1.1 ⟨hFB0, hFB1⟩ (d := 1) (l := 6) (.inr rfl) (by omega) (by omega)
  rw [fs_1, hq6, h1.2, show (sealX S.v).k = S.v.k from rfl, hdat] at this
  rw [h1.2]
  exact this
 have c4 : ∀ S1 : Sy, WI a A S.o.on S1 g0 g1 15 2140 → Fnc Tryz.prog 44 [pt A.sn, .int .i64 0, .int .i64 5] (syM a A B S1) (AQ a A B (fun S' => WI a A S.o.on S' g0 g1 15 2147 ∧ S'.v = S1.v) (.tuple #[.string q, .bool true, .int .i64 0])) := fun S1 h1 => by
  have := w_get (B := B) h1 (d := 0) (l := 5) (.inl rfl) (by omega) (by rw [fs_0, hq5]; exact kd_z hkd) (by omega)
  rw [fs_0, hq5] at this
  exact this
 have c5 : ∀ S1 : Sy, WI a A S.o.on S1 g0 g1 15 2147 → Fnc Tryz.prog 44 [pt A.sn, .int .i64 1, .int .i64 6] (syM a A B S1) (AQ a A B (fun S' => WI a A S.o.on S' g0 g1 15 2154 ∧ S'.v = S1.v) (.tuple #[.string q, .bool true, .int .i64 0])) := fun S1 h1 => by
  have := w_get (B := B) h1 (d := 1) (l := 6) (.inr rfl) (by omega) (by rw [fs_1, hq6]; exact kd_z hkd) (by omega)
  rw [fs_1, hq6] at this
  exact this
 have hsd : ∀ S1 : Sy, S1.v = sealX S.v → Fnc Tryz.prog 72 [pt B.vn] (syM a A B S1) (Ret (.int .i64 1) (syM a A B S1)) := fun S1 h => by
  have := w_sealed (a := a) (A := A) (B := B) (S := S1)
  rw [h, show (sealX S.v).n = 1 by unfold sealX; rw [n0]; rfl] at this
  exact this
 have hlf : ∀ S1 : Sy, WI a A S.o.on S1 g0 g1 15 2154 → S1.v = sealX S.v → Fnc Tryz.prog 73 [pt B.vn] (syM a A B S1) (Ret (.int .i64 99) (syM a A B S1)) := fun S1 h1 h => by
  have := w_left (B := B) h1
  rw [h, show (sealX S.v).x.many - (sealX S.v).x.next = 99 by unfold sealX numX; rw [x0]; rfl] at this
  exact this
 repeat' ((conv => whnf); first
  | refine ld1_row wdC_2 ?_ | refine call_a c1 (.one takeE) (fun S1 h1 => ?_) | refine call_a (c2 S1 h1) (.one takeE) (fun S2 h2 => ?_) | refine call_a (c3 S2 ⟨h2.1, h2.2.trans h1.2⟩) (.one takeE) (fun S3 h3 => ?_) | refine call_a (c4 S3 h3.1) (.one takeE) (fun S4 h4 => ?_) | refine call_a (c5 S4 h4.1) (.one takeE) (fun S5 h5 => ?_) | refine call_gr (w_store (a := a) (A := A) (B := B) (S := S3)) (.one takeE) ?_ | refine call_gr (w_store (a := a) (A := A) (B := B) (S := S4)) (.one takeE) ?_ | refine call_gr (hsd S5 (h5.2.trans (h4.2.trans (h3.2.trans (h2.2.trans h1.2))))) (.one takeE) ?_ | refine call_gr (hlf S5 h5.1 (h5.2.trans (h4.2.trans (h3.2.trans (h2.2.trans h1.2))))) (.one takeE) ?_ | (refine ifs (fun h => ?_) (fun h => ?_) <;> try (exfalso; first | omega | with_reducible first | contradiction | exact h rfl)))
 all_goals (conv => whnf)
 all_goals exact fin_nil ⟨rfl, rfl⟩
end Bgn
namespace Wld
open Go Ev Sha Aes Orc Node Rec Chn Jrn Cau Sto Ivs Ctr Aut Stg Bgn
open Rig (Fnc_takeR RigP Rg rgM z64 app_of RigA)
open Tree (TreP TreA Tre treM TI Same getT_ok putT_ok GetI PutI updB getT putT)
def _root_.Go.Proofs.YtkjamonkohpcnaaGreat.Sto.RgV.say (y : RgV) (d m : Int) : RgV := { y with dirty := d, mode := m }
attribute [local irreducible] dgV D jC wrF rcC stC regC RgV.lay rgM
section
variable {a : RigA} {A : StoA} {B : VA} {on : Nat} {S : Sy} {f0 f1 : Nat → ByteArray} {m b : Nat}
def Sy.say (S : Sy) (d md : Int) : Sy := { S with V := { S.V with next := S.V.is.say d md } }
end
end Wld
namespace Wld
open Go Ev Sha Aes Orc Node Rec Chn Jrn Cau Sto Ivs Ctr Aut Stg Bgn
open Rig (Fnc_takeR RigP Rg rgM z64 app_of RigA)
open Tree (TreP TreA Tre treM TI Same getT_ok putT_ok GetI PutI updB getT putT)
attribute [local irreducible] dgV D jC wrF rcC stC regC RgV.lay rgM
theorem wait0 (sn tn : Nat) (x : StP) (A : TreA) (t : TreP) (ht : x.t0 = some ⟨tn, 0, none⟩) : Fnc Tryz.prog 75 [pt sn, .int .i64 0] (stB sn x :: treM tn ⟨A, t⟩) (Ret (.int .i64 t.sheet.length) (stB sn x :: treM tn ⟨A, t⟩)) := by
 have h2 := Tree.tsheet tn ⟨A, t⟩
 have h3 := tlen tn A t
 refine fn_intro Tryz.func75 (by kernel_rfl) ?_
 repeat' ((conv => whnf); first
  | refine nv_eq (a := 6) rfl ?_ | refine ld1_row (n := sn) (v := pt tn) (by rw [stC_7, ht]) ?_ | refine call_gr h2 (.one takeG) ?_ | refine call_gr h3 (.one takeG) ?_ | refine need (by first | rfl | omega) ?_ | (refine ifs (fun h => ?_) (fun h => ?_) <;> try (exfalso; first | omega | with_reducible first | contradiction | exact h rfl)))
 all_goals (conv => whnf)
 all_goals exact fin_g (A := stB sn x :: treM tn ⟨A, t⟩) (.blk takeC (.one takeG)) ⟨rfl, rfl⟩
theorem wait1 (sn tn : Nat) (x : StP) (A : TreA) (t : TreP) (ht : x.t1 = some ⟨tn, 0, none⟩) : Fnc Tryz.prog 75 [pt sn, .int .i64 1] (stB sn x :: treM tn ⟨A, t⟩) (Ret (.int .i64 t.sheet.length) (stB sn x :: treM tn ⟨A, t⟩)) := by
 have h2 := Tree.tsheet tn ⟨A, t⟩
 have h3 := tlen tn A t
 refine fn_intro Tryz.func75 (by kernel_rfl) ?_
 repeat' ((conv => whnf); first
  | refine nv_eq (a := 8) rfl ?_ | refine ld1_row (n := sn) (v := pt tn) (by rw [stC_9]; show some (Value.pointer x.t1) = _; rw [ht]) ?_ | refine call_gr h2 (.one takeG) ?_ | refine call_gr h3 (.one takeG) ?_ | refine need (by first | rfl | omega) ?_ | (refine ifs (fun h => ?_) (fun h => ?_) <;> try (exfalso; first | omega | with_reducible first | contradiction | exact h rfl)))
 all_goals (conv => whnf)
 all_goals exact fin_g (A := stB sn x :: treM tn ⟨A, t⟩) (.blk takeC (.one takeG)) ⟨rfl, rfl⟩
section
variable {a : RigA} {A : StoA} {B : VA} {on : Nat} {S : Sy} {f0 f1 : Nat → ByteArray} {m b : Nat}
theorem w_wait0 : Fnc Tryz.prog 75 [pt A.sn, .int .i64 0] (syM a A B S) (Ret (.int .i64 S.V.t0.sheet.length) (syM a A B S)) := by
 unfold syM sysM stoR
 exact Fnc_keep (wait0 A.sn A.tn0 (Sto.c ⟨A, S.V⟩) A.a0 S.V.t0 rfl) (.blk takeC (.one takeG))
theorem w_wait1 : Fnc Tryz.prog 75 [pt A.sn, .int .i64 1] (syM a A B S) (Ret (.int .i64 S.V.t1.sheet.length) (syM a A B S)) := by
 unfold syM sysM stoR
 exact Fnc_keep (wait1 A.sn A.tn1 (Sto.c ⟨A, S.V⟩) A.a1 S.V.t1 rfl) (.blk takeC (.one takeE))
def Sy.sealed (S : Sy) : Sy := ⟨numR S.r S.V S.v.x, S.o, numV S.V S.v.x, sealX S.v⟩
theorem wi_sealed (h : WI a A on S f0 f1 m b) (hn : S.v.x.next < S.v.x.many) : WI a A on S.sealed f0 f1 (m + 1) b := wi_seal (r := S.r) (o := S.o) (V := S.V) (v := S.v) h hn
end
end Wld
namespace Wld
open Go Ev Sha Aes Orc Node Rec Chn Jrn Cau Sto Ivs Ctr Aut Stg Bgn
open Rig (Fnc_takeR RigP Rg rgM z64 app_of RigA)
open Tree (TreP TreA Tre treM TI Same getT_ok putT_ok GetI PutI updB getT putT)
structure Sm (V V' : StoV) : Prop where
 i : V'.is = V.is
 n : V'.next = V.next
 g0 : V'.g0 = V.g0
 g1 : V'.g1 = V.g1
 g2 : V'.g2 = V.g2
 s : V'.super = V.super
theorem Sm.trans {V V' V'' : StoV} (h : Sm V V') (k : Sm V' V'') : Sm V V'' := ⟨k.i.trans h.i, k.n.trans h.n, k.g0.trans h.g0, k.g1.trans h.g1, k.g2.trans h.g2, k.s.trans h.s⟩
theorem sm_tr (V : StoV) (d : Int) (t : TreP) : Sm V (V.setTr d t) := by unfold StoV.setTr; split <;> exact ⟨rfl, rfl, rfl, rfl, rfl, rfl⟩
theorem sm_fl {V V' : StoV} (h : Sm V V') (e : Int) : Sm V (V'.fl e) := ⟨h.i, h.n, h.g0, h.g1, h.g2, h.s⟩
theorem sm_put {r : RigP} {ts : List ByteArray} {V : StoV} {d : Int} {l : Nat} {s : ByteArray} (hd : d = 0 ∨ d = 1) (hl : l < 64) (hs : s.size = 64) (hr : (V.tr d).sheet.length ≤ 57) : Sm V (putO r ts V d l s).V := by
 rw [putO_in hd hl hs hr]; exact sm_tr _ _ _
theorem sm_get {r : RigP} {ts : List ByteArray} {V : StoV} {d : Int} {l : Nat} (hd : d = 0 ∨ d = 1) (hl : l < 64) : Sm V (getO r ts V d l).V := by
 rw [getO_in hd hl]; exact sm_tr _ _ _
section
variable {a : RigA} {A : StoA} {B : VA} {on : Nat} {S : Sy} {f0 f1 : Nat → ByteArray} {m b : Nat}
theorem wi_sh (h : WI a A on S f0 f1 m b) {d : Int} (hd : d = 0 ∨ d = 1) (hm : m ≤ 57) : (S.V.tr d).sheet.length ≤ 57 := by have := (wi_tree h hd).2.2; omega
end
end Wld
namespace Cmt
open Go Ev Sha Aes Orc Node Rec Chn Jrn Cau Sto Srt Stg Wld Bgn Ivs Ctr Aut
open Rig (Fnc_takeR RigP Rg rgM readR writeR flushR setRegR z64 app_of tick comes mayE RigA)
open Tree (TreP TreA Tre treM TI Same getS setS updB ShJ)
attribute [local irreducible] dgV D jC wrF rcC stC regC flF srF bare BareT RgV.lay rgM
theorem runm_ (sn : Nat) (x : StP) (f : FuncId) (fs : List Value) (R : List Blk) (Q : Option Int → StP → List Blk → Prop) (h : x.failed = 0)
 (hg : Fnc Tryz.prog f ((fs ++ []) ++ []) (stB sn x :: R) (Cau.Ends fun o M => ∃ y S, Q o y S ∧ M = stB sn y :: S)) :
 Fnc Tryz.prog 57 [pt sn, .func (.func f) fs.toArray #[]] (stB sn x :: R)
  (fun e M => ∃ o y S, Q o y S ∧ e = .returned (.int .i64 (o.getD 0)) ∧ M = stB sn { y with failed := failE (o.getD 0) y.failed } :: S) := by
 have h1 := failed_ sn x h
 have h2 := caught_ f fs [] (stB sn x :: R) _ hg
 have h3 := fun y e => end_ sn y e
 refine fn_intro Tryz.func57 (by kernel_rfl) ?_
 repeat' ((conv => whnf); first
  | refine call_gr h1 (.blk takeC .nil) ?_ | (refine call_g h2 takesG_all (fun e A' hq => ?_); obtain ⟨q, ⟨y, S, hQ, hM⟩, he⟩ := hq; subst hM; subst he) | refine call_gr (h3 _ _) (.blk takeC .nil) ?_ | (refine ifs (fun h => ?_) (fun h => ?_) <;> try (exfalso; first | omega | with_reducible first | contradiction | exact h rfl)))
 all_goals (conv => whnf)
 all_goals rw [List.append_nil]
 all_goals exact fin_all ⟨q, y, S, hQ, rfl, rfl⟩
def cxO (r : RigP) (o : Orc) (V : StoV) : Cx := ⟨⟨r, o.ts⟩, V.j0, V.j1, V.t0, V.t1, V.is, V.next, V.is⟩
def _root_.Go.Proofs.YtkjamonkohpcnaaGreat.Sto.StoV.wq (V : StoV) (q : Cx) : StoV := { V with j0 := q.j0, j1 := q.j1, t0 := q.t0, t1 := q.t1, is := q.is, next := q.next }
structure CmA (A A' : StoA) : Prop where
 sn : A'.sn = A.sn
 r0 : A'.a0.rn = A.a0.rn
 o0 : A'.a0.on = A.a0.on
 r1 : A'.a1.rn = A.a1.rn
 o1 : A'.a1.on = A.a1.on
def CmQ (a : RigA) (o : Orc) (A : StoA) (V : StoV) (N : Int) (r : RigP) (v : Value) : Ending → List Blk → Prop := fun e M =>
 ∃ (A' : StoA) (o' : Orc) (q : Cx × Int), CO V.super (cxO r o V) N q 6 ∧ CmA A A' ∧ o'.on = o.on ∧ o'.ts = q.1.s.ts ∧ e = .returned v ∧ M = sysM a q.1.s.r o' A' (V.wq q.1)
section
variable {a : RigA} {r : RigP} {o : Orc} {A : StoA} {V : StoV} {N : Int}
theorem sys_c2 (hs : SOk ⟨A, V⟩ a.rn o.on) : sysM a r o A V = c2M a o A.sn A.jn0 A.jn1 A.tn0 A.tn1 a.rn o.on (Sto.c ⟨A, V⟩) A.a0 A.a1 (cxO r o V) := by
 have h1 : V.rn = a.rn := hs.rn
 have h2 : V.on = o.on := hs.on
 unfold sysM c2M stoR
 dsimp only
 rw [h1, h2]
 rfl
theorem cm_end (hs : SOk ⟨A, V⟩ a.rn o.on) {q : Cx × Int} (hk : CO V.super (cxO r o V) N q 6) {e : Ending} {M : List Blk} (h : CTQ a o A.sn A.tn0 A.tn1 (Sto.c ⟨A, V⟩) A.a0 A.a1 q e M) : CmQ a o A V N r (.tuple #[]) e M := by
 obtain ⟨o', A0', A1', p0, p1, h1, h2, h3, h4, h5, h6, h7, h8⟩ := h
 have g1 : V.rn = a.rn := hs.rn
 have g2 : V.on = o.on := hs.on
 have he : e = .returned (.tuple #[]) := by
  rcases h7 with ⟨_, h⟩ | ⟨h, _⟩
  · exact h
  · exact absurd hk.e h
 refine ⟨⟨A.sn, p0, p1, A.tn0, A.tn1, A0', A1'⟩, o', q, hk, ⟨rfl, h3, h4, h5, h6⟩, h1, h2, he, ?_⟩
 rw [h8, ← g1, ← g2]
 rfl
theorem waitR (hat : V.is.at_ = true) (h0 : V.t0.sheet = []) (h1 : V.t1.sheet = []) : Fnc Tryz.prog 117 [pt A.sn] (stB A.sn (Sto.c ⟨A, V⟩) :: (orcM o ++ stoR ⟨A, V⟩)) (Ret (.slice none 0 0) (stB A.sn (Sto.c ⟨A, V⟩) :: (orcM o ++ stoR ⟨A, V⟩))) := by
 have hw := waiting1 A.sn A.tn0 A.tn1 (Sto.c ⟨A, V⟩) A.a0 A.a1 V.t0 V.t1 hat rfl rfl
 rw [h0, h1] at hw
 have hr : Fnc Tryz.prog 117 [pt A.sn] (stB A.sn (Sto.c ⟨A, V⟩) :: (treM A.tn0 ⟨A.a0, V.t0⟩ ++ treM A.tn1 ⟨A.a1, V.t1⟩)) (Ret (.slice none 0 0) (stB A.sn (Sto.c ⟨A, V⟩) :: (treM A.tn0 ⟨A.a0, V.t0⟩ ++ treM A.tn1 ⟨A.a1, V.t1⟩))) := by
  refine Fnc_mono hw ?_
  rintro e M (⟨_, h2, h3⟩ | ⟨h, _⟩)
  · exact ⟨h2, h3⟩
  · exact absurd rfl h
 unfold stoR
 exact Fnc_keep hr (.blk takeC (.grp takeG (.one takeG)))
theorem fn_dirty {x y : RgV} (h : regC x = regC y) : x.dirty = y.dirty ∧ x.mode = y.mode := by
 have h1 := congrArg (·[70]?) h
 have h2 := congrArg (·[71]?) h
 have e1 : ∀ z : RgV, (regC z)[70]? = some (.int .i64 z.dirty) := fun z => by unfold regC; rw [List.getElem?_append_right (by rw [dgV_len]; omega), dgV_len, List.getElem?_append_right (by rw [dgV_len]; omega), dgV_len]; rfl
 have e2 : ∀ z : RgV, (regC z)[71]? = some (.int .i64 z.mode) := fun z => by unfold regC; rw [List.getElem?_append_right (by rw [dgV_len]; omega), dgV_len, List.getElem?_append_right (by rw [dgV_len]; omega), dgV_len]; rfl
 simp only [e1, e2, Option.some.injEq, Value.int.injEq, true_and] at h1 h2
 exact ⟨h1, h2⟩
theorem co_nil {super : ByteArray} {c : Cx} (h : CI super c N) (h0 : c.t0.sheet = []) (h1 : c.t1.sheet = []) {y : RgV} {x : RigP × Int} (hy : y.ok) (hs : y.at_ = c.is.at_ ∧ y.iv = c.is.iv ∧ y.ep = c.is.ep) (hd : y.dirty = c.next.dirty ∧ y.mode = c.next.mode) (hr : RJ y c.j0 c.j1) (hx : Ste c.s.r x) (hdk : ∀ C0 C1, DJ super c.s.r c.j0 c.j1 c.is C0 C1 → DK super x.1 c.j0 c.j1 y C0 C1) :
 CO super c N (⟨⟨x.1, c.s.ts⟩, c.j0, c.j1, c.t0, c.t1, y, y, c.x⟩, 0) 6 :=
 ⟨rfl, hx.fine, rfl, hy, hd, hs, h.j0.more, h.j1.more, hr, (clr_nil h0).symm, (clr_nil h1).symm, fun j hj => by rw [h0, getS_nil]; exact hx.nw 0 (.inl rfl) j hj, fun j hj => by rw [h1, getS_nil]; exact hx.nw 1 (.inr rfl) j hj, by show c.s.ts.length ≤ _; omega, fun C0 C1 hj => by rw [h0, h1, ovl_nil, ovl_nil]; exact hdk C0 C1 hj, by rw [if_pos h0], by rw [if_pos h1]⟩
attribute [local irreducible] setG roomJ comT0 comT1 comT01
theorem commit_ok (hs : SOk ⟨A, V⟩ a.rn o.on) (h : CI V.super (cxO r o V) N) (hN : N + 1 ≤ 4294967295) (hs64 : V.super.size = 64) (hb : o.ts.length ≤ 1099511500000) :
 Fnc Tryz.prog 61 [pt A.sn] (sysM a r o A V) (CmQ a o A V N r (.tuple #[])) := by
 have j0 := h.j0
 have j1 := h.j1
 have a0 : JAr V.j0 := ⟨j0.area, by have := j0.sq; unfold seqOk; dsimp only [cxO] at this; omega⟩
 have a1 : JAr V.j1 := ⟨j1.area, by have := j1.sq; unfold seqOk; dsimp only [cxO] at this; omega⟩
 have k0 : JOk V.j0 V.t0 := JOk.of j0 (by decide) hN h.s0 h.l0
 have k1 : JOk V.j1 V.t1 := JOk.of j1 (by decide) hN h.s1 h.l1
 by_cases e0 : V.t0.sheet = []
 · by_cases e1 : V.t1.sheet = []
   · by_cases he : regC V.next = regC V.is
     · have hc := commit_eq A.sn (Sto.c ⟨A, V⟩) (orcM o ++ stoR ⟨A, V⟩) (waitR h.at_ e0 e1) he
       have hd := fn_dirty he
       have hk := co_nil (y := V.is) (x := (r, 0)) h e0 e1 h.iok ⟨rfl, rfl, rfl⟩ ⟨hd.1.symm, hd.2.symm⟩ h.rj ⟨rfl, h.fine, fun _ _ _ _ => rfl⟩ (fun C0 C1 hj => hj.dk)
       unfold sysM
       refine Fnc_drop (Fnc_perm (Fnc_more (B := rgM ⟨a, r⟩) hc) (List.perm_append_comm.trans (List.Perm.append_left _ List.perm_middle.symm))) ?_
       rintro e A' ⟨A2, h0, h1, h2⟩
       subst h0
       subst h2
       have hst : stB A.sn (Sto.c ⟨A, V⟩) = stB A.sn (Sto.c ⟨A, V.wq ⟨⟨r, o.ts⟩, V.j0, V.j1, V.t0, V.t1, V.is, V.is, V.is⟩⟩) := by
        have : stC (Sto.c ⟨A, V⟩) = stC (Sto.c ⟨A, V.wq ⟨⟨r, o.ts⟩, V.j0, V.j1, V.t0, V.t1, V.is, V.is, V.is⟩⟩) := by
         unfold stC
         show _ ++ (regC V.is ++ (regC V.next ++ _)) = _ ++ (regC V.is ++ (regC V.is ++ _))
         rw [he] <;> rfl
        unfold stB; rw [this]
       have hp : (stB A.sn (Sto.c ⟨A, V⟩) :: (orcM o ++ stoR ⟨A, V⟩) ++ rgM ⟨a, r⟩).Perm (sysM a r o A (V.wq ⟨⟨r, o.ts⟩, V.j0, V.j1, V.t0, V.t1, V.is, V.is, V.is⟩)) := by
        rw [hst]
        exact List.perm_append_comm.trans (List.Perm.append_left _ List.perm_middle.symm)
       exact ⟨⟨_, [], by rw [List.append_nil]; exact hp, ⟨A, o, _, hk, ⟨rfl, rfl, rfl, rfl, rfl⟩, rfl, rfl, h1, rfl⟩⟩⟩
     · have hn := commit_nil a r A.sn (Sto.c ⟨A, V⟩) (orcM o ++ stoR ⟨A, V⟩) hs.rn (waitR h.at_ e0 e1) he
       have hst := ste_set h.fine h.ok
       have hst' : Ste r (setG r (RgV.dm V.is V.next)) := hst
       have hk := co_nil (y := RgV.dm V.is V.next) h e0 e1 h.ok ⟨rfl, rfl, rfl⟩ ⟨rfl, rfl⟩ ⟨h.rj.a0, h.rj.r0, h.rj.u0, h.rj.a1, h.rj.r1, h.rj.u1⟩ hst (fun C0 C1 hj => by
        have e := setG_F (r := r) h.fine h.ok
        show DK V.super (setG r (RgV.dm V.is V.next)).1 V.j0 V.j1 (RgV.dm V.is V.next) C0 C1
        rw [show setG r (RgV.dm V.is V.next) = (srF r (RgV.dm V.is V.next).lay, 0) from e]
        exact hj.dk.sr _)
       change Fnc _ _ _ _ (fun e M => Pe (setG r (RgV.dm V.is V.next)).2 e ∧ M = rgM ⟨a, (setG r (RgV.dm V.is V.next)).1⟩ ++ (stB A.sn (if (setG r (RgV.dm V.is V.next)).2 = 0 then StP.wn (Sto.c ⟨A, V⟩) (RgV.dm V.is V.next) (RgV.dm V.is V.next) else (Sto.c ⟨A, V⟩)) :: (orcM o ++ stoR ⟨A, V⟩))) at hn
       rw [if_pos hst'.e, hst'.e] at hn
       unfold sysM
       refine Fnc_drop (Fnc_perm hn (List.Perm.append_left _ List.perm_middle.symm)) ?_
       rintro e A' ⟨h1, h2⟩
       subst h2
       have h1' : e = .returned (.tuple #[]) := by
        rcases h1 with ⟨_, h⟩ | ⟨h, _⟩
        · exact h
        · exact absurd rfl h
       exact ⟨⟨_, [], by rw [List.append_nil]; exact List.Perm.append_left _ List.perm_middle.symm, ⟨A, o, _, hk, ⟨rfl, rfl, rfl, rfl, rfl⟩, rfl, rfl, h1', rfl⟩⟩⟩
   · have l1 : 1 ≤ V.t1.sheet.length := List.length_pos_iff.2 e1
     rw [sys_c2 hs]
     refine Fnc_mono (commitT1 a (cxO r o V) o A.sn A.jn0 A.jn1 A.tn0 A.tn1 (Sto.c ⟨A, V⟩) A.a0 A.a1 hs.rn hs.on rfl rfl rfl rfl rfl rfl rfl hs64 h.at_ ?_ a0 a1 h.s1.un l1 k1 hb) fun e M hq => cm_end hs (comT1_ok h hN l1 e0) hq
     show wtL V.t0.sheet.length V.t1.sheet.length = _
     unfold wtL; rw [if_pos (by rw [e0]; rfl), if_neg (by omega)]
 · have l0 : 1 ≤ V.t0.sheet.length := List.length_pos_iff.2 e0
   by_cases e1 : V.t1.sheet = []
   · rw [sys_c2 hs]
     refine Fnc_mono (commitT0 a (cxO r o V) o A.sn A.jn0 A.jn1 A.tn0 A.tn1 (Sto.c ⟨A, V⟩) A.a0 A.a1 hs.rn hs.on rfl rfl rfl rfl rfl rfl rfl hs64 h.at_ ?_ a0 a1 h.s0.un l0 k0 hb) fun e M hq => cm_end hs (comT0_ok h hN l0 e1) hq
     show wtL V.t0.sheet.length V.t1.sheet.length = _
     unfold wtL; rw [if_neg (by omega), if_pos (by rw [e1]; rfl)]
   · have l1 : 1 ≤ V.t1.sheet.length := List.length_pos_iff.2 e1
     rw [sys_c2 hs]
     refine Fnc_mono (commitT01 a (cxO r o V) o A.sn A.jn0 A.jn1 A.tn0 A.tn1 (Sto.c ⟨A, V⟩) A.a0 A.a1 hs.rn hs.on rfl rfl rfl rfl rfl rfl rfl hs64 h.at_ ?_ a0 a1 h.s0.un l0 k0 h.s1.un l1 k1 hb) fun e M hq => cm_end hs (comT01_ok h hN l0 l1) hq
     show wtL V.t0.sheet.length V.t1.sheet.length = _
     unfold wtL; rw [if_neg (by omega), if_neg (by omega)]
end
end Cmt
namespace Cmt
open Go Ev Sha Aes Orc Node Rec Chn Jrn Cau Sto Srt Stg Wld Bgn Ivs Ctr Aut
open Rig (Fnc_takeR RigP Rg rgM readR writeR flushR setRegR z64 app_of tick comes mayE RigA)
open Tree (TreP TreA Tre treM TI Same getS setS updB ShJ)
attribute [local irreducible] dgV D jC wrF rcC stC regC flF srF bare BareT RgV.lay rgM
section
variable {a : RigA} {r : RigP} {o : Orc} {A : StoA} {V : StoV} {N : Int}
theorem fl0_wq (hf : V.failed = 0) (q : Cx) : ({ (Sto.c ⟨A, V.wq q⟩) with failed := failE 0 (Sto.c ⟨A, V.wq q⟩).failed } : StP) = Sto.c ⟨A, V.wq q⟩ := by
 have : failE 0 (Sto.c ⟨A, V.wq q⟩).failed = (Sto.c ⟨A, V.wq q⟩).failed := if_neg (by decide)
 rw [this]
theorem Commit_ok (hs : SOk ⟨A, V⟩ a.rn o.on) (hf : V.failed = 0) (h : CI V.super (cxO r o V) N) (hN : N + 1 ≤ 4294967295) (hs64 : V.super.size = 64) (hb : o.ts.length ≤ 1099511500000) :
 Fnc Tryz.prog 23 [pt A.sn] (sysM a r o A V) (CmQ a o A V N r (.int .i64 0)) := by
 have hc := commit_ok (a := a) hs h hN hs64 hb
 have hp : (sysM a r o A V).Perm (stB A.sn (Sto.c ⟨A, V⟩) :: (rgM ⟨a, r⟩ ++ (orcM o ++ stoR ⟨A, V⟩))) := (List.Perm.append_left _ List.perm_middle).trans List.perm_middle
 have hg : Fnc Tryz.prog 61 (([pt A.sn] ++ []) ++ []) (stB A.sn (Sto.c ⟨A, V⟩) :: (rgM ⟨a, r⟩ ++ (orcM o ++ stoR ⟨A, V⟩)))
  (Cau.Ends fun oe M => ∃ y S, (oe = none ∧ ∃ (A' : StoA) (o' : Orc) (q : Cx × Int), CO V.super (cxO r o V) N q 6 ∧ CmA A A' ∧ o'.on = o.on ∧ o'.ts = q.1.s.ts ∧ y = Sto.c ⟨A', V.wq q.1⟩ ∧ S = rgM ⟨a, q.1.s.r⟩ ++ (orcM o' ++ stoR ⟨A', V.wq q.1⟩)) ∧ M = stB A.sn y :: S) := by
  refine Fnc_drop (Fnc_perm hc hp) ?_
  rintro e M ⟨A', o', q, h1, h2, h3, h4, h5, h6⟩
  subst h6
  have hp' : (sysM a q.1.s.r o' A' (V.wq q.1)).Perm (stB A.sn (Sto.c ⟨A', V.wq q.1⟩) :: (rgM ⟨a, q.1.s.r⟩ ++ (orcM o' ++ stoR ⟨A', V.wq q.1⟩))) := by
   rw [← h2.sn]
   exact (List.Perm.append_left _ List.perm_middle).trans List.perm_middle
  exact ⟨⟨_, [], by rw [List.append_nil]; exact hp', ⟨none, ⟨_, _, ⟨rfl, A', o', q, h1, h2, h3, h4, rfl, rfl⟩, rfl⟩, _, h5⟩⟩⟩
 have hrun := runm_ A.sn (Sto.c ⟨A, V⟩) _ [pt A.sn] _ _ hf hg
 have hcall : Fnc Tryz.prog 23 [pt A.sn] (stB A.sn (Sto.c ⟨A, V⟩) :: (rgM ⟨a, r⟩ ++ (orcM o ++ stoR ⟨A, V⟩))) (CmQ a o A V N r (.int .i64 0)) := by
  refine fn_intro Tryz.func23 (by kernel_rfl) ?_
  repeat' ((conv => whnf); first
   | (refine call_g hrun takesG_all (fun e A' hq => ?_); obtain ⟨oe, y, S, ⟨q1, A2, o2, q, k1, k2, k3, k4, k5, k6⟩, q6, q7⟩ := hq; subst q1; subst k5; subst k6; subst q6; subst q7))
  all_goals (conv => whnf)
  all_goals rw [List.append_nil]
  all_goals refine ⟨⟨sysM a q.1.s.r o2 A2 (V.wq q.1), [], ?_, ⟨A2, o2, q, k1, k2, k3, k4, rfl, rfl⟩⟩⟩
  all_goals rw [List.append_nil]
  all_goals rw [Option.getD_none, fl0_wq hf, ← k2.sn]
  all_goals exact ((List.Perm.append_left _ List.perm_middle).trans List.perm_middle).symm
 exact Fnc_perm hcall hp.symm
end
end Cmt
namespace Cmt
open Go Ev Sha Aes Orc Node Rec Chn Jrn Cau Sto Srt Stg Wld Bgn Ivs Ctr Aut
open Rig (Fnc_takeR RigP Rg rgM readR writeR flushR setRegR z64 app_of tick comes mayE RigA)
open Tree (TreP TreA Tre treM TI Same getS setS updB ShJ getT putT getT_ok putT_ok)
structure SI (r : RigP) (t : TreP) (F : Nat → ByteArray) : Prop where
 sh : ShI t.sheet
 nd : ∀ (n : Nat) s, n < 63 → getS t.sheet (161 + n : Nat) = some s → s = F n
 dv : ∀ n : Nat, n < 63 → getS t.sheet (161 + n : Nat) = none → ((r.dev t.d) (161 + n)).now = F n
theorem SI.same {r r' : RigP} {t : TreP} {F : Nat → ByteArray} (h : SI r t F) (hs : Same r r') : SI r' t F := ⟨h.sh, h.nd, fun n hn hk => by rw [hs.dev]; exact h.dv n hn hk⟩
theorem si_get {r r' : RigP} {t t' : TreP} {F : Nat → ByteArray} (h : SI r t F) (hs : Same r r') (h1 : t'.sheet = t.sheet) (h2 : t'.d = t.d) : SI r' t' F :=
 ⟨by rw [h1]; exact h.sh, by rw [h1]; exact h.nd, fun n hn hk => by rw [hs.dev, h2]; rw [h1] at hk; exact h.dv n hn hk⟩
theorem si_put {r r' : RigP} {t t' : TreP} {F F' : Nat → ByteArray} (h : SI r t F) (hs : Same r r') (k : ShJ t t' F F') : SI r' t' F' := by
 refine ⟨⟨k.un h.sh.un, fun p hp => ?_⟩, fun n s hn hg => ?_, fun n hn hg => ?_⟩
 · rcases k.mem p hp with h1 | h1
   · exact h.sh.ok p h1
   · exact h1
 · rcases k.nd n hn with h1 | ⟨h1, h2⟩
   · rw [h1] at hg; exact (Option.some.inj hg).symm
   · rw [h1] at hg; rw [h2]; exact h.nd n s hn hg
 · rcases k.nd n hn with h1 | ⟨h1, h2⟩
   · rw [h1] at hg; cases hg
   · rw [h1] at hg; rw [h2, hs.dev, k.d]; exact h.dv n hn hg
theorem ti_com {r r' : RigP} {t : TreP} {F f : Nat → ByteArray} (h : TI r t F f) (k : SI r t F) (hn : ∀ j : Nat, 161 ≤ j → nw_ r' t.d j = (getS t.sheet j).getD (nw_ r t.d j)) : TI r' (TreP.clr t) F f ∧ SI r' (TreP.clr t) F := by
 have hF : ∀ n : Nat, n < 63 → ((r'.dev t.d) (161 + n)).now = F n := fun n hm => by
  have h1 : ((r'.dev t.d) (161 + n)).now = _ := hn (161 + n) (by omega)
  rw [h1]
  cases e : getS t.sheet (161 + n : Nat) with
  | some s => exact k.nd n s hm e
  | none => exact k.dv n hm e
 refine ⟨⟨h.d, h.sz, h.fsz, h.root, h.kid, h.known, fun n hm _ => hF n hm, fun n s _ hg => ?_, fun n hm _ => ?_⟩, ⟨⟨List.nodup_nil, fun p hp => by cases hp⟩, fun n s _ hg => ?_, fun n hm _ => hF n hm⟩⟩
 · cases hg
 · have h1 : ((r'.dev t.d) (224 + n)).now = _ := hn (224 + n) (by omega)
   show ((r'.dev t.d) (224 + n)).now = _
   rw [h1]
   cases e : getS t.sheet (224 + n : Nat) with
   | some s => exact h.sheet n s hm e
   | none => exact h.leaf n hm e
 · cases hg
structure WJ (a : RigA) (A : StoA) (on : Nat) (S : Sy) (f0 f1 : Nat → ByteArray) (m b : Nat) (N : Int) : Prop where
 wi : WI a A on S f0 f1 m b
 t0 : ∃ F, TI S.r S.V.t0 F f0 ∧ SI S.r S.V.t0 F
 t1 : ∃ F, TI S.r S.V.t1 F f1 ∧ SI S.r S.V.t1 F
 j0 : JI S.V.j0 0 S.V.super N
 j1 : JI S.V.j1 1 S.V.super N
 rj : RJ S.V.is S.V.j0 S.V.j1
 ok : (RgV.dm S.V.is S.V.next).ok
 s64 : S.V.super.size = 64
section
variable {a : RigA} {A : StoA} {B : VA} {on : Nat} {S : Sy} {f0 f1 : Nat → ByteArray} {m b : Nat} {N : Int}
theorem wj_tree (h : WJ a A on S f0 f1 m b N) {d : Int} (hd : d = 0 ∨ d = 1) : ∃ F, TI S.r (S.V.tr d) F (fs f0 f1 d) ∧ SI S.r (S.V.tr d) F := by
 rcases hd with rfl | rfl
 · exact h.t0
 · exact h.t1
theorem wj_set (h : WJ a A on S f0 f1 m b N) {d : Int} (hd : d = 0 ∨ d = 1) {r' : RigP} {o' : Orc} {t' : TreP} {F' f' g0 g1 : Nat → ByteArray} {m' b' : Nat} (hs : Same S.r r') (ht : TI r' t' F' f') (hi : SI r' t' F')
 (hw : WI a A on ⟨r', o', S.V.setTr d t', S.v⟩ g0 g1 m' b') (h0 : g0 = if d = 0 then f' else f0) (h1 : g1 = if d = 0 then f1 else f') : WJ a A on ⟨r', o', S.V.setTr d t', S.v⟩ g0 g1 m' b' N := by
 obtain ⟨F0, t0, s0⟩ := h.t0
 obtain ⟨F1, t1, s1⟩ := h.t1
 subst h0; subst h1
 rcases hd with rfl | rfl
 · exact ⟨hw, ⟨F', ht, hi⟩, ⟨F1, t1.same hs, s1.same hs⟩, h.j0, h.j1, h.rj, h.ok, h.s64⟩
 · exact ⟨hw, ⟨F0, t0.same hs, s0.same hs⟩, ⟨F', ht, hi⟩, h.j0, h.j1, h.rj, h.ok, h.s64⟩
theorem wj_put (h : WJ a A on S f0 f1 m b N) {d : Int} {l : Nat} {s : ByteArray} (hd : d = 0 ∨ d = 1) (hl : l < 64) (hs : s.size = 64) (hm : m ≤ 57) {o' : Orc} (ho : o'.on = on) (hts : o'.ts = (putO S.r S.o.ts S.V d l s).ts) :
 WJ a A on ⟨(putO S.r S.o.ts S.V d l s).r, o', (putO S.r S.o.ts S.V d l s).V.fl 0, S.v⟩ (up0 f0 d l s) (up1 f1 d l s) (m + 7) (b + 13) N := by
 have hp := (put h.wi hd hl hs hm).wi o' ho hts
 obtain ⟨F, ht, hi⟩ := wj_tree h hd
 have hsh := wi_sh h.wi hd hm
 have hg := putT_ok (ts := S.o.ts) ht h.wi.vok.fine hl hs
 obtain ⟨F', hti, hj⟩ := hg.ti
 have hd0 : ∀ t : TreP, (S.V.setTr d t).failed = 0 := fun t => by unfold StoV.setTr; split <;> exact h.wi.vok.ok
 rw [putO_in hd hl hs hsh] at hp ⊢
 dsimp only at hp ⊢
 rw [fl_0 (hd0 _) (by rw [hd0]; rfl)] at hp ⊢
 exact wj_set h hd hg.same hti (si_put hi hg.same hj) hp (fs_upd f0 f1 d l s).1.symm (fs_upd f0 f1 d l s).2.symm
theorem wj_get (h : WJ a A on S f0 f1 m b N) {d : Int} {l : Nat} (hd : d = 0 ∨ d = 1) (hl : l < 64) {o' : Orc} (ho : o'.on = on) (hts : o'.ts = (getO S.r S.o.ts S.V d l).ts) :
 WJ a A on ⟨(getO S.r S.o.ts S.V d l).r, o', (getO S.r S.o.ts S.V d l).V.fl 0, S.v⟩ f0 f1 m (b + 7) N := by
 have hp := (got h.wi hd hl).wi o' ho hts
 obtain ⟨F, ht, hi⟩ := wj_tree h hd
 have hdd := (wi_tree h.wi hd).2.1
 have hg := getT_ok (ts := S.o.ts) ht h.wi.vok.fine hl
 have htd : (getT S.r S.o.ts (S.V.tr d) l).t.d = (S.V.tr d).d := by
  have := (Tree.down_ok (ts := S.o.ts) ht h.wi.vok.fine hl)
  exact (Tree.getT_d _ _ _ _).trans this.d
 have hd0 : ∀ t : TreP, (S.V.setTr d t).failed = 0 := fun t => by unfold StoV.setTr; split <;> exact h.wi.vok.ok
 rw [getO_in hd hl] at hp ⊢
 dsimp only at hp ⊢
 rw [fl_0 (hd0 _) (by rw [hd0]; rfl)] at hp ⊢
 exact wj_set h hd hg.same hg.ti (si_get hi hg.same hg.sheet htd) hp (fs_set f0 f1 d).1.symm (fs_set f0 f1 d).2.symm
theorem WJ.ci (h : WJ a A on S f0 f1 m b N) (hm : m ≤ 64) : CI S.V.super (cxO S.r S.o S.V) N := by
 obtain ⟨F0, _, s0⟩ := h.t0
 obtain ⟨F1, _, s1⟩ := h.t1
 have l0 := h.wi.sh0
 have l1 := h.wi.sh1
 exact ⟨h.wi.vok.fine, h.wi.vok.att, h.wi.vok.reg, h.ok, h.j0, h.j1, h.rj, s0.sh, s1.sh, by show S.V.t0.sheet.length ≤ 64; omega, by show S.V.t1.sheet.length ≤ 64; omega⟩
structure CmW (a : RigA) (on : Nat) (S : Sy) (f0 f1 : Nat → ByteArray) (m b : Nat) (N : Int) (A' : StoA) (S' : Sy) : Prop where
 wj : WJ a A' on S' f0 f1 m (b + 6) (N + 1)
 v : S'.v = S.v
 e0 : S'.V.t0.sheet = []
 e1 : S'.V.t1.sheet = []
 nx : S'.V.next = S'.V.is
 dy : S'.V.is.dirty = S.V.next.dirty ∧ S'.V.is.mode = S.V.next.mode
 at_ : S'.V.is.at_ = S.V.is.at_
 ep : S'.V.is.ep = S.V.is.ep
 g : S'.V.g0 = S.V.g0 ∧ S'.V.g1 = S.V.g1 ∧ S'.V.g2 = S.V.g2 ∧ S'.V.super = S.V.super
 co : ∃ q, CO S.V.super (cxO S.r S.o S.V) N q 6 ∧ S'.r = q.1.s.r ∧ S'.V = S.V.wq q.1
theorem wj_com (h : WJ a A on S f0 f1 m b N) {A' : StoA} (hA : CmA A A') {o' : Orc} (ho : o'.on = on) {q : Cx × Int} (k : CO S.V.super (cxO S.r S.o S.V) N q 6) (hts : o'.ts = q.1.s.ts) : CmW a on S f0 f1 m b N A' ⟨q.1.s.r, o', S.V.wq q.1, S.v⟩ := by
 obtain ⟨F0, t0, s0⟩ := h.t0
 obtain ⟨F1, t1, s1⟩ := h.t1
 have w := h.wi
 have v := w.vok
 have d0 := w.d0
 have d1 := w.d1
 have c0 := ti_com (r' := q.1.s.r) t0 s0 (by rw [d0]; exact k.n0)
 have c1 := ti_com (r' := q.1.s.r) t1 s1 (by rw [d1]; exact k.n1)
 have e0 : q.1.t0 = TreP.clr S.V.t0 := k.t0
 have e1 : q.1.t1 = TreP.clr S.V.t1 := k.t1
 rw [← e0] at c0
 rw [← e1] at c1
 have hl := w.len
 have hk := k.ts
 have hiv : q.1.is.iv = S.V.is.iv := k.sm.2.1
 have hat : q.1.is.at_ = S.V.is.at_ := k.sm.1
 have z0 : q.1.t0.sheet = [] := by rw [e0]; rfl
 have z1 : q.1.t1.sheet = [] := by rw [e1]; rfl
 have sk := w.sok
 refine ⟨⟨⟨⟨sk.rn, sk.on, hA.r0.trans sk.r0, hA.o0.trans sk.o0, hA.r1.trans sk.r1, hA.o1.trans sk.o1⟩, ho, ⟨F0, c0.1⟩, ⟨F1, c1.1⟩, ?_, ?_, ?_, ?_, ?_, ⟨v.row, hiv.trans v.top, k.ok, k.fine, v.ok, hat.trans v.att⟩, w.key, w.cnt⟩, ⟨F0, c0⟩, ⟨F1, c1⟩, k.j0, k.j1, k.rj, ?_, h.s64⟩, rfl, z0, z1, k.nx, k.dy, hat, k.sm.2.2, ⟨rfl, rfl, rfl, rfl⟩, ⟨q, k, rfl, rfl⟩⟩
 · show q.1.t0.d = 0; rw [e0]; exact d0
 · show q.1.t1.d = 1; rw [e1]; exact d1
 · show q.1.t0.sheet.length ≤ m; rw [z0]; exact Nat.zero_le _
 · show q.1.t1.sheet.length ≤ m; rw [z1]; exact Nat.zero_le _
 · show o'.ts.length ≤ b + 6
   rw [hts]
   have : (cxO S.r S.o S.V).s.ts = S.o.ts := rfl
   rw [this] at hk; omega
 · show (RgV.dm q.1.is q.1.next).ok
   rw [k.nx]; exact k.ok
def AC (a : RigA) (A : StoA) (B : VA) (P : StoA → Sy → Prop) (v : Value) : Ending → List Blk → Prop := fun e M => ∃ A' S', A'.sn = A.sn ∧ P A' S' ∧ e = .returned v ∧ M = syM a A' B S'
theorem w_commit (h : WJ a A on S f0 f1 m b N) (hm : m ≤ 64) (hN : N + 1 ≤ 4294967295) (hb : b ≤ 1099511500000) :
 Fnc Tryz.prog 23 [pt A.sn] (syM a A B S) (AC a A B (CmW a on S f0 f1 m b N) (.int .i64 0)) := by
 have ho := h.wi.on
 have hs : SOk ⟨A, S.V⟩ a.rn S.o.on := by rw [ho]; exact h.wi.sok
 have hc := Commit_ok (a := a) (o := S.o) hs h.wi.vok.ok (h.ci hm) hN h.s64 (by have := h.wi.len; omega)
 unfold syM
 refine Fnc_mono (Fnc_more hc) ?_
 rintro e M ⟨M', h1, A', o', q, h2, h3, h4, h5, h6, h7⟩
 subst h1; subst h7
 refine ⟨A', ⟨q.1.s.r, o', S.V.wq q.1, S.v⟩, h3.sn, wj_com h h3 (h4.trans ho) h2 h5, h6, ?_⟩
 rw [← h3.sn]; rfl
end
end Cmt
namespace Cmt
open Go Ev Sha Aes Orc Node Rec Chn Jrn Cau Sto Srt Stg Wld Bgn Ivs Ctr Aut
open Rig (Fnc_takeR RigP Rg rgM z64 app_of RigA)
open Tree (TreP TreA Tre treM TI Same getT_ok putT_ok GetI PutI updB getT putT)
section
variable {a : RigA} {A : StoA} {B : VA} {on : Nat} {S : Sy} {f0 f1 : Nat → ByteArray} {m b : Nat} {N : Int}
theorem wj_sealed (h : WJ a A on S f0 f1 m b N) (hn : S.v.x.next < S.v.x.many) : WJ a A on S.sealed f0 f1 (m + 1) b N := by
 have hw := wi_sealed h.wi hn
 have hr := hw.vok.reg
 obtain ⟨F0, t0, s0⟩ := h.t0
 obtain ⟨F1, t1, s1⟩ := h.t1
 have hf := h.wi.vok.fine
 by_cases hc : S.v.x.next < S.v.x.top
 · have e1 : numR S.r S.V S.v.x = S.r := if_pos hc
   have e2 : numV S.V S.v.x = S.V := if_pos hc
   unfold Sy.sealed at hw ⊢
   rw [e1, e2] at hw ⊢
   exact ⟨hw, ⟨F0, t0, s0⟩, ⟨F1, t1, s1⟩, h.j0, h.j1, h.rj, h.ok, h.s64⟩
 · have e1 : numR S.r S.V S.v.x = srF S.r (S.V.is.to (needN S.v.x)).lay := if_neg hc
   have e2 : numV S.V S.v.x = { S.V with is := S.V.is.to (needN S.v.x), next := S.V.next.to (needN S.v.x) } := if_neg hc
   unfold Sy.sealed at hw hr ⊢
   rw [e1, e2] at hw ⊢
   rw [e2] at hr
   have sm : Same S.r (srF S.r (S.V.is.to (needN S.v.x)).lay) := ⟨rfl, rfl⟩
   refine ⟨hw, ⟨F0, t0.same sm, s0.same sm⟩, ⟨F1, t1.same sm, s1.same sm⟩, h.j0, h.j1, ⟨h.rj.a0, h.rj.r0, h.rj.u0, h.rj.a1, h.rj.r1, h.rj.u1⟩, ?_, h.s64⟩
   have ho := h.ok
   dsimp only at hr
   unfold RgV.ok at hr ho ⊢
   exact { ho with i0 := hr.i0, i1 := hr.i1 }
end
end Cmt
namespace Cmt
open Go Ev Sha Aes Orc Node Rec Chn Jrn Cau Sto Srt Stg Wld Bgn Ivs Ctr Aut
open Rig (Fnc_takeR RigP Rg rgM z64 app_of RigA)
open Tree (TreP TreA Tre treM TI Same getT_ok putT_ok GetI PutI updB getT putT getS)
theorem frJ_ji (super : ByteArray) {d : Nat} (N : Int) (hN : 0 ≤ N) : JI (frJ super d 0) d super N := by
 unfold frJ
 exact ⟨rfl, Nat.zero_le _, ⟨Nat.le_refl 1, by show 1 ≤ 80; omega⟩, ⟨Int.le_refl 0, hN⟩, rfl⟩
theorem si_bare {r : RigP} {d : Int} (h : ∀ j, 161 ≤ j → j < 288 → nw_ r d j = if j < 224 then (Node.bare (high (j - 161))).1 else (Node.bare 0).1) : SI r ⟨d, (Node.bare 6).2, [], []⟩ bF := by
 refine ⟨⟨List.nodup_nil, fun p hp => by cases hp⟩, fun n s _ hg => (by cases hg), fun n hn _ => ?_⟩
 have := h (161 + n) (by omega) (by omega)
 rw [if_pos (by omega), Nat.add_sub_cancel_left] at this
 exact this
theorem wj_new {a : RigA} {A : StoA} {on : Nat} {r : RigP} {o : Orc} {V : StoV} {super : ByteArray} {g0 g1 g2 : Int} {k : Nat → Int} (hf : Fine r) (hok : SOk ⟨A, V⟩ a.rn on) (hV : V = fmV0 a.rn on g0 g1 g2 super) (ho : o.on = on) (hg : 1 ≤ g2 ∧ g2 ≤ 1099511627776) (hk : ∀ i, by8 (k i)) (hs : super.size = 64) :
 WJ a A on ⟨fmR r super, o, V, ⟨k, ⟨0, 0, g2⟩, 0⟩⟩ (fun _ => z64) (fun _ => z64) 0 o.ts.length 0 := by
 have hw := wi_new (k := k) hf hok hV ho hg hk
 subst hV
 refine ⟨hw, ⟨bF, ti_bare (.inl rfl) (fm_nw r super (.inl rfl)), si_bare (fm_nw r super (.inl rfl))⟩, ⟨bF, ti_bare (.inr rfl) (fm_nw r super (.inr rfl)), si_bare (fm_nw r super (.inr rfl))⟩, frJ_ji super 0 (Int.le_refl 0), frJ_ji super 0 (Int.le_refl 0), ?_, fmV_ok super, hs⟩
 show RJ (fmV super) (frJ super 0 0) (frJ super 1 0)
 exact ⟨rfl, rfl, rfl, rfl, rfl, rfl⟩
end Cmt
namespace Rig
open Go Ev Sha Aes
def crs (b : B3) : ByteArray := if b.is then b.safe else b.now
def cr1 (b : B3) : B3 := ⟨crs b, crs b, false⟩
def crD (d : DevC) : DevC := fun i => cr1 (d i)
def crI (d : DevC) (k : Nat) : DevC := fun i => if i < k then cr1 (d i) else d i
theorem crI_0 (d : DevC) : crI d 0 = d := by funext i; unfold crI; rw [if_neg (by omega)]
theorem crI_at (d : DevC) (k : Nat) : crI d k k = d k := by unfold crI; rw [if_neg (by omega)]
theorem crI_succ (d : DevC) (k : Nat) : updD (crI d k) k (cr1 (d k)) = crI d (k + 1) := by
 funext i
 unfold updD crI
 by_cases h : i = k
 · subst h; rw [if_pos rfl, if_pos (by omega)]
 · rw [if_neg h]
   by_cases h2 : i < k
   · rw [if_pos h2, if_pos (by omega)]
   · rw [if_neg h2, if_neg (by omega)]
theorem crI_end (d : DevC) : rowD 288 (crI d 288) = rowD 288 (crD d) := by
 unfold rowD
 rw [show (List.range 288).map (fun i => bC (crI d 288 i)) = (List.range 288).map (fun i => bC (crD d i)) from List.map_congr_left fun i hi => by
  have := List.mem_range.1 hi
  unfold crI
  rw [if_pos this]; rfl]
theorem rowD_at3 {n i : Nat} {d : DevC} {junk : List Value} (hi : i < n) : ((rowD n d ++ junk).drop (i * 3)).take (bC (d i)).length = bC (d i) := by
 apply List.ext_getElem?
 intro k
 show (List.take 3 (List.drop (i * 3) (rowD n d ++ junk)))[k]? = (bC (d i))[k]?
 by_cases hk : k < 3
 · rw [List.getElem?_take, if_pos hk, List.getElem?_drop, rowD_at hi hk]
 · rw [List.getElem?_take, if_neg hk, List.getElem?_eq_none (by show 3 ≤ k; omega)]
abbrev cDv (c dn : Nat) : Blk := ⟨c, .cells [pt dn] 145⟩
abbrev cLo (c : Nat) : Blk := ⟨c, .cells [.slice none 0 0, .int .i64 0, .int .i64 0] 92⟩
abbrev cN0 (c : Nat) : Blk := ⟨c, .cells [.int .i64 0] 3⟩
theorem ext_all (s : ByteArray) : ByteArray.empty ++ s.extract 0 s.size = s := by
 rw [ByteArray.extract_zero_size]
 exact ByteArray.empty_append
theorem ext_all2 (x s : ByteArray) : x.extract 0 0 ++ s.extract 0 s.size = s := by
 rw [show x.extract 0 0 = ByteArray.empty by simp, ext_all]
abbrev rB2 (a : DevA) (d : DevC) : List Blk := [⟨a.dn, .cells [.slice (some ⟨a.an, 0, none⟩) 288 a.cap] 206⟩, ⟨a.an, .row (rowD 288 d ++ a.junk) 203⟩]
theorem kept_ (a : DevA) (d : DevC) (k c0 c1 c2 : Nat) (hk : k < 288) (hz : k = 0 → (d k).safe.size ≤ 4096) :
 Fnc Tryz.prog 142 [.int .i64 k, pt c0, pt c1, pt c2] (rB2 a d ++ [cDv c0 a.dn, cLo c1, cN0 c2]) (Ret (.string (crs (d k))) (rB2 a d ++ [cDv c0 a.dn, cLo c1, cN0 c2])) := by
 have h3 := rowD_at3 (d := d) (junk := a.junk) hk
 generalize d k = x at h3 hz ⊢
 obtain ⟨xn, xs, is⟩ := x
 cases is
 all_goals
  refine fn_intro Tryz.func142 (by kernel_rfl) ?_
  repeat' ((conv => whnf); first
   | refine nv_eq (a := k * 3) (by omega) ?_ | refine ldN_row (n := a.an) _ h3 rfl ?_ | refine draw_any 6 [(0, true), (4, true), (1, true), (2, true), (3, true), (5, true), (6, false), (7, true), (8, true), (9, true)] [⟨n, _⟩, ⟨c2, _⟩] rfl (by kernel_rfl) (kept_of (.cons takeC (.cons takeC .nil)) ?_) | refine kept_of (.cons takeC (.cons takeC .nil)) ?_ | refine fld1 ?_ | (refine sv (fun z hz' => ?_); subst hz') | (refine need (by have hz2 := hz (by omega); dsimp only at hz2 ⊢; rw [show IntKind.i64.max = 9223372036854775807 from rfl]; simp only [ByteArray.size_extract]; omega) ?_) | refine ld1_lit ?_ | refine nw (fun n => ?_) | refine st_lit rfl ?_ | refine need (by first | rfl | omega) ?_ | (refine zv (fun z hz => ?_); (try rw [Int.tmod_eq_emod_of_nonneg (by omega)] at hz); subst hz) | (refine ifs (fun h => ?_) (fun h => ?_) <;> try (exfalso; first | omega | with_reducible first | contradiction | exact h rfl)))
  all_goals (conv => whnf)
  all_goals first
   | exact fin_g (A := rB2 a d ++ [cDv c0 a.dn, cLo c1, cN0 c2]) (.blk takeC (.blk takeC (.blk takeC (.blk takeC (.blk takeC .nil))))) ⟨rfl, rfl⟩ | exact fin_g (A := rB2 a d ++ [cDv c0 a.dn, cLo c1, cN0 c2]) (.blk takeC (.blk takeC (.blk takeC (.blk takeC (.blk takeC .nil))))) ⟨by show Ending.returned (.string _) = .returned (.string _); congr 2; exact ext_all2 _ _, rfl⟩
theorem dcrash (a : DevA) (d : DevC) (hz : (d 0).safe.size ≤ 4096) : Fnc Tryz.prog 84 [pt a.dn, .agg #[.slice none 0 0, .int .i64 0, .int .i64 0]] (devM a d) (Ret (.int .i64 0) (devM a (crD d))) := by
 unfold devM
 have hk := fun (k c0 c1 c2 : Nat) (h : k < 288) (hh : k = 0 → (crI d k k).safe.size ≤ 4096) => kept_ a (crI d k) k c0 c1 c2 h hh
 refine fn_intro Tryz.func84 (by kernel_rfl) ?_
 repeat' ((conv => whnf); first
  | refine ld1_lit ?_ | refine nw (fun n => ?_) | refine st_lit rfl ?_ | refine need (by first | rfl | omega) ?_ | (refine ifs (fun h => ?_) (fun h => ?_) <;> try (exfalso; first | omega | with_reducible first | contradiction | exact h rfl)))
 all_goals (conv => whnf)
 rename_i c0 c1 h0
 refine loop_rule [21] (fun vs M m => ∃ k : Nat, vs = [.int .i64 k] ∧ k ≤ 288 ∧ m = 288 - k ∧ M = rB2 a (crI d k) ++ [cDv c0 a.dn, cLo c1, cN0 n]) rfl ?_ ?_
 · exact fin_g (A := rB2 a d ++ [cDv c0 a.dn, cLo c1, cN0 n]) (.blk takeC (.blk takeC (.blk takeC (.blk takeC (.blk takeC .nil))))) ⟨_, 0, rfl, by omega, rfl, by rw [crI_0]⟩
 rintro vs junk M' m ⟨k, rfl, hk8, rfl, rfl⟩
 by_cases hk9 : k < 288
 · have hc := hk k c0 c1 n hk9 (fun e => by rw [crI_at]; rw [e]; exact hz)
   have hr : (rowD 288 (crI d k) ++ a.junk).take (k * 3) ++ bC (cr1 (d k)) ++ (rowD 288 (crI d k) ++ a.junk).drop (k * 3 + 3) = rowD 288 (crI d (k + 1)) ++ a.junk := by rw [rowD_set hk9, crI_succ]
   have hl : k * 3 + 3 ≤ (rowD 288 (crI d k) ++ a.junk).length := by rw [List.length_append, rowD_len]; omega
   rw [crI_at] at hc
   repeat' ((conv => whnf); first
    | refine call_gr hc (.blk takeC (.blk takeC (.blk takeC (.blk takeC (.blk takeC .nil))))) ?_ | refine nv_eq (a := k * 3) (by omega) ?_ | (refine st_rowN (n := a.an) (vs := bC (cr1 (d k))) (by intro u hu; simp only [bC, List.mem_cons, List.not_mem_nil, or_false] at hu; rcases hu with rfl | rfl | rfl <;> rfl) hl ?_; rw [show (bC (cr1 (d k))).length = 3 from rfl, hr]) | refine ld1_lit ?_ | refine bld ?_ | refine need (by first | rfl | omega) ?_ | (refine wr (fun z hz => ?_); (try rw [Int.tdiv_eq_ediv_of_nonneg (by omega)] at hz); rw [w64 (by omega) (by omega)] at hz; subst hz) | (refine ifs (fun h => ?_) (fun h => ?_) <;> try (exfalso; first | omega | with_reducible first | contradiction | exact h rfl)))
   all_goals (conv => whnf)
   all_goals exact ⟨rfl, fin_g (A := rB2 a (crI d (k + 1)) ++ [cDv c0 a.dn, cLo c1, cN0 n]) (.blk takeC (.blk takeC (.blk takeC (.blk takeC (.blk takeC .nil))))) ⟨288 - (k + 1), by omega, k + 1, rfl, by omega, rfl, rfl⟩⟩
 · obtain rfl : k = 288 := by omega
   have e : rB2 a (crI d 288) = rB2 a (crD d) := by unfold rB2; rw [crI_end]
   rw [e]
   repeat' ((conv => whnf); first
    | (refine ifs (fun h => ?_) (fun h => ?_) <;> try (exfalso; first | omega | with_reducible first | contradiction | exact h rfl)))
   all_goals (conv => whnf)
   all_goals exact fin_g (A := rB2 a (crD d)) (.blk takeC (.blk takeC .nil)) ⟨rfl, rfl⟩
def crR (r : RigP) : RigP := { r with d0 := crD r.d0, d1 := crD r.d1, down := false, later := 0, arm := 0, fault := 0 }
section
variable {P : Program} {M : List Blk} {a : RigA} {r : RigP} {T : TypeId} {f : Blk → List Blk} {k : List Blk → Prop}
theorem st_later {x : Int} [z : Zip M a.rn (.row (rigC a r) T) f] (hk : k (f ⟨a.rn, .row (rigC a { r with later := x }) T⟩)) : StN P M a.rn 5 [.int .i64 x] k := st_row rfl (by simp [rigC]) hk
theorem st_arm {x : Int} [z : Zip M a.rn (.row (rigC a r) T) f] (hk : k (f ⟨a.rn, .row (rigC a { r with arm := x }) T⟩)) : StN P M a.rn 6 [.int .i64 x] k := st_row rfl (by simp [rigC]) hk
theorem st_fault {x : Int} [z : Zip M a.rn (.row (rigC a r) T) f] (hk : k (f ⟨a.rn, .row (rigC a { r with fault := x }) T⟩)) : StN P M a.rn 7 [.int .i64 x] k := st_row rfl (by simp [rigC]) hk
end
theorem crash_ (a : RigA) (r : RigP) (h0 : (r.d0 0).safe.size ≤ 4096) (h1 : (r.d1 0).safe.size ≤ 4096) :
 Fnc Tryz.prog 36 [pt a.rn, .agg #[.slice none 0 0, .int .i64 0, .int .i64 0], .agg #[.slice none 0 0, .int .i64 0, .int .i64 0]] (rgM ⟨a, r⟩) (Ret (.int .i64 0) (rgM ⟨a, crR r⟩)) := by
 have c0 := dcrash a.a0 r.d0 h0
 have c1 := dcrash a.a1 r.d1 h1
 rw [rg_open' a r, rg_open' a (crR r)]
 refine fn_intro Tryz.func36 (by kernel_rfl) ?_
 repeat' ((conv => whnf); first
  | refine draw_any 3 [(0, true), (1, true), (2, true), (3, true), (4, true), (5, false), (6, false)] [⟨a.rn, _⟩] rfl (by kernel_rfl) (kept_of (.cons takeC .nil) ?_) | refine draw_any 4 [(0, true), (1, true), (2, true), (3, true), (4, true), (5, false), (6, false)] [⟨a.rn, _⟩] rfl (by kernel_rfl) (kept_of (.cons takeC .nil) ?_) | refine kept_of (.cons takeC .nil) ?_ | refine fld1_row (n := a.rn) rfl ?_ | (refine nv (fun z hz => ?_); (try simp at hz); replace hz := hz.symm; subst hz) | refine call_gr c0 (.one takeG) ?_ | refine call_gr c1 (.one takeG) ?_ | refine st_down ?_ | refine st_later ?_ | refine st_arm ?_ | refine st_fault ?_ | refine ldN_lit ?_ | refine nw (fun n => ?_) | refine need (by first | rfl | omega) ?_)
 all_goals (conv => whnf)
 exact fin_g (A := rB a (crR r) :: (devM a.a0 (crD r.d0) ++ devM a.a1 (crD r.d1))) (.blk takeC (.grp takeG (.one takeG))) ⟨rfl, rfl⟩
end Rig
end Go.Proofs.YtkjamonkohpcnaaGreat
