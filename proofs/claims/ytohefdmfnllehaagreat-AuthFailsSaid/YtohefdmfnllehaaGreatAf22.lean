/- A world begun. -/
import Derived.Test.YtohefdmfnllehaaGreatAf21
import Derived.Test.YtohefdmfnllehaaGreatAf17
import Derived.Test.YtohefdmfnllehaaGreatAf5
import Derived.Test.YtohefdmfnllehaaGreatAf18
namespace Go.Proofs.YtohefdmfnllehaaGreat.Bgn
open Go Ev Sha Aes Orc Node Rec Chn Jrn Cau Sto Ivs Ctr Aut Wld
open Rig (Fnc_takeR RigP Rg rgM z64 app_of RigA)
open Tree (TreP TreA Tre treM TI Same updB)
set_option linter.unusedVariables false
set_option linter.unusedSimpArgs false
set_option maxRecDepth 100000
def rowS (f : Nat → ByteArray) : List Value := (List.range 128).map fun i => .string (f i)
theorem rowS_len (f : Nat → ByteArray) : (rowS f).length = 128 := by unfold rowS; simp
theorem rowS_set (f : Nat → ByteArray) {i : Nat} (hi : i < 128) (s : ByteArray) : (rowS f).set i (.string s) = rowS (updB f i s) := by
  apply List.ext_getElem?
  intro j
  unfold rowS
  rw [List.getElem?_set]
  by_cases hj : j < 128
  · rw [List.getElem?_map, List.getElem?_map, List.getElem?_range hj]
    simp only [Option.map_some, List.length_map, List.length_range]
    unfold updB
    by_cases h : i = j
    · subst h; rw [if_pos rfl, if_pos hi, if_pos rfl]
    · rw [if_neg h, if_neg (fun e => h e.symm)]
  · rw [if_neg (by omega), List.getElem?_eq_none (by simp; omega), List.getElem?_eq_none (by simp; omega)]
theorem rowS_one (f : Nat → ByteArray) : ∀ u ∈ rowS f, u.oneCell' = true := by
  intro u hu; unfold rowS at hu; obtain ⟨j, _, rfl⟩ := List.mem_map.1 hu; rfl
/-- A world's cells. -/
def wdC (rn on : Nat) (vp : Option Addr) (f g : Nat → ByteArray) : List Value := .pointer (some ⟨rn, 0, none⟩) :: .pointer (some ⟨on, 0, none⟩) :: .pointer vp :: (rowS f ++ (rowS g ++ [.slice none 0 0]))
abbrev wdB (n rn on : Nat) (vp : Option Addr) (f g : Nat → ByteArray) : Blk := ⟨n, .row (wdC rn on vp f g) 36⟩
section
variable {rn on : Nat} {vp : Option Addr} {f g : Nat → ByteArray}
theorem wdC_len : (wdC rn on vp f g).length = 260 := by unfold wdC; simp [rowS_len]
theorem wdC_0 : (wdC rn on vp f g)[0]? = some (pt rn) := rfl
theorem wdC_1 : (wdC rn on vp f g)[1]? = some (pt on) := rfl
theorem wdC_2 : (wdC rn on vp f g)[2]? = some (.pointer vp) := rfl
theorem wdC_s2 {v : Option Addr} : (wdC rn on vp f g).set 2 (.pointer v) = wdC rn on v f g := rfl
theorem wdC_sm {i : Nat} (hi : i < 128) (s : ByteArray) : (wdC rn on vp f g).set (3 + i) (.string s) = wdC rn on vp (updB f i s) g := by
  unfold wdC
  rw [show 3 + i = i + 1 + 1 + 1 by omega, List.set_cons_succ, List.set_cons_succ, List.set_cons_succ, List.set_append_left _ _ (by rw [rowS_len]; omega), rowS_set f hi]
theorem wdC_m : ((wdC rn on vp f g).drop 3).take (rowS f).length = rowS f := by
  unfold wdC
  show (rowS f ++ (rowS g ++ [Value.slice none 0 0])).take (rowS f).length = rowS f
  rw [List.take_left']; rfl
theorem wdC_so {h : Nat → ByteArray} : (wdC rn on vp f g).take 131 ++ rowS h ++ (wdC rn on vp f g).drop (131 + (rowS h).length) = wdC rn on vp f h := by
  unfold wdC
  rw [rowS_len]
  show (([Value.pointer (some ⟨rn, 0, none⟩), .pointer (some ⟨on, 0, none⟩), .pointer vp] ++ ((rowS f ++ (rowS g ++ [Value.slice none 0 0])).take 128)) ++ rowS h) ++ ((rowS f ++ (rowS g ++ [Value.slice none 0 0])).drop 256) = _
  rw [List.take_left' (rowS_len f), show 256 = (rowS f).length + 128 by rw [rowS_len], ← List.drop_drop, List.drop_left, List.drop_left' (rowS_len g)]
  simp
end
theorem st_wv {P : Program} {M : List Blk} {n rn on : Nat} {vp : Option Addr} {f g : Nat → ByteArray} {T : TypeId} {F : Blk → List Blk} {k : List Blk → Prop} [z : Zip M n (.row (wdC rn on vp f g) T) F] {v : Option Addr} (hk : k (F ⟨n, .row (wdC rn on v f g) T⟩)) : StN P M n 2 [.pointer v] k := st_row rfl (by rw [wdC_len]; omega) (by rw [wdC_s2]; exact hk)
theorem st_wm {P : Program} {M : List Blk} {n rn on : Nat} {vp : Option Addr} {f g : Nat → ByteArray} {T : TypeId} {F : Blk → List Blk} {k : List Blk → Prop} [z : Zip M n (.row (wdC rn on vp f g) T) F] {i : Nat} {s : ByteArray} (hi : i < 128) (hk : k (F ⟨n, .row (wdC rn on vp (updB f i s) g) T⟩)) : StN P M n (3 + i) [.string s] k := st_row rfl (by rw [wdC_len]; omega) (by rw [wdC_sm hi]; exact hk)
theorem st_wo {P : Program} {M : List Blk} {n rn on : Nat} {vp : Option Addr} {f g : Nat → ByteArray} {T : TypeId} {F : Blk → List Blk} {k : List Blk → Prop} [z : Zip M n (.row (wdC rn on vp f g) T) F] {h : Nat → ByteArray} (hk : k (F ⟨n, .row (wdC rn on vp f h) T⟩)) : StN P M n 131 (rowS h) k := st_rowN (rowS_one h) (by rw [wdC_len, rowS_len]; omega) (by rw [wdC_so]; exact hk)
def emp : Nat → ByteArray := fun _ => ⟨#[]⟩
theorem wd0_e (rn on : Nat) : wdC rn on none emp emp = [.pointer (some ⟨rn, 0, none⟩), .pointer (some ⟨on, 0, none⟩), .pointer none] ++ (List.replicate 256 (Value.string ⟨#[]⟩) ++ [.slice none 0 0]) := rfl
def mmk : Nat → Nat → ByteArray
  | 0 => emp
  | k + 1 => updB (updB (mmk k) k z48) (64 + k) z48
theorem mmk_s (k : Nat) : mmk (k + 1) = updB (updB (mmk k) k z48) (64 + k) z48 := rfl
theorem shape : Fnc Tryz.prog 37 [] [] (Ret (.agg #[.int .i64 64, .int .i64 8, .int .i64 1099511627776]) []) := by
  refine fn_intro Tryz.func37 (by kernel_rfl) ?_
  repeat' ((conv => whnf); first
      | refine ld1_lit ?_
      | refine ldN_lit ?_
      | refine nw (fun n => ?_)
      | refine bld ?_
      | refine st_lit rfl ?_
      | refine need (by first | rfl | omega) ?_
      | (refine wr (fun z hz => ?_); (try rw [Int.tdiv_eq_ediv_of_nonneg (by omega)] at hz); rw [w64 (by omega) (by omega)] at hz; subst hz)
      | (refine zv (fun z hz => ?_); (try rw [Int.tmod_eq_emod_of_nonneg (by omega)] at hz); subst hz)
      | (refine ifs (fun h => ?_) (fun h => ?_) <;> (try (exfalso; first | omega | with_reducible contradiction | with_reducible exact h rfl))))
  all_goals (conv => whnf)
  all_goals exact fin_pick (A' := []) .nil ⟨rfl, rfl⟩
theorem z32_ : Fnc Tryz.prog 44 [.int .i64 32] [] (Ret (.string (str (List.replicate 32 0))) []) := Be.zeros 32 (by omega) (by omega)
theorem z48_ : Fnc Tryz.prog 44 [.int .i64 48] [] (Ret (.string z48) []) := Be.zeros 48 (by omega) (by omega)
def keyS : ByteArray := Be.full ⟨#[107, 101, 121]⟩ 32
theorem keyS_size : keyS.size = 32 := by
  unfold keyS Be.full
  rw [if_neg (by decide), ByteArray.size_append, Ev.str_size]
  rfl
theorem key_ : Fnc Tryz.prog 73 [] [] (Ret (.string keyS) []) := by
  have h1 : Fnc Tryz.prog 52 [.string ⟨#[107, 101, 121]⟩, .int .i64 32] [] (Ret (.string keyS) []) := Be.full01 ⟨#[107, 101, 121]⟩ 32 (by decide) (by decide)
  refine fn_intro Tryz.func73 (by kernel_rfl) ?_
  repeat' ((conv => whnf); first
      | refine call_val h1 ?_
      | refine ld1_lit ?_
      | refine ldN_lit ?_
      | refine nw (fun n => ?_)
      | refine bld ?_
      | refine st_lit rfl ?_
      | refine need (by first | rfl | omega) ?_
      | (refine wr (fun z hz => ?_); (try rw [Int.tdiv_eq_ediv_of_nonneg (by omega)] at hz); rw [w64 (by omega) (by omega)] at hz; subst hz)
      | (refine zv (fun z hz => ?_); (try rw [Int.tmod_eq_emod_of_nonneg (by omega)] at hz); subst hz)
      | (refine ifs (fun h => ?_) (fun h => ?_) <;> (try (exfalso; first | omega | with_reducible contradiction | with_reducible exact h rfl))))
  all_goals (conv => whnf)
  all_goals exact fin_nil ⟨rfl, rfl⟩
end Go.Proofs.YtohefdmfnllehaaGreat.Bgn
/- Small helpers for walks: reads of written-out blocks in regions of open order. -/
namespace Go.Proofs.YtohefdmfnllehaaGreat.Ev
open Go
set_option linter.unusedVariables false
set_option linter.unusedSimpArgs false
theorem fldN {n off m : Nat} {cs : List Value} {t : TypeId} {k : List Value → Prop} {RO : List Blk} [h : Look RO n (.cells cs t)] (hk : dropK cs off fun l => takeK l m k) : FLdN RO n off m k := by
  obtain ⟨h1, h2⟩ := dropK_out hk
  obtain ⟨h3, h4⟩ := takeK_out h1
  refine ⟨_, by rw [List.length_take]; omega, fun w hm j v hj => ?_, h3⟩
  have := hm.1 _ h.mem
  simp only [Blk.holds] at this
  rw [List.getElem?_take] at hj
  split at hj
  · rw [List.getElem?_drop] at hj
    simp [World.cell?, this, hj]
  · cases hj
/-- A slice cut with its capacity. -/
theorem slice3 {P : Program} {M : List Blk} {k : Kv} {pan : Kp} {tmps : Array Value} {ds : List Deferred} {o : Oper} {t e : TypeId} {x xh xm : Operand} {b off len cap h m : Nat} {kh km : IntKind} {i : TypeInfo} (ho : o.op = .slice t x none (some xh) (some xm))
    (ht : P.underlying t = some (.slice e)) (hi : P.info? e = some i) (hx : Act.eval ⟨tmps, ds⟩ x = .slice (some ⟨b, off, none⟩) len cap) (hh : Act.eval ⟨tmps, ds⟩ xh = .int kh (h : Int)) (hm : Act.eval ⟨tmps, ds⟩ xm = .int km (m : Int))
    (h1 : h ≤ m) (h2 : m ≤ cap) (hk : k (.slice (some ⟨b, off, none⟩) h m) M) : Runs P (execOp (Act.eval ⟨tmps, ds⟩) o) M k pan := by
  refine Runs.val (fun w => ?_) hk
  have b1 : ∀ kd (z : Nat) (y : Nat) c, z ≤ y → (Instr.sliceBound (.int kd (z : Int)) y c).run P w = .ok z w := fun kd z y c hz => by
    have : (0 : Int) ≤ z ∧ (z : Int) ≤ y := ⟨by omega, by omega⟩
    simp [Instr.sliceBound, asIntOf, this, hz]
  unfold execOp
  rw [ho]
  simp only [hx, Option.map_none, Option.map_some, hh, hm, Instr.sliceAt, Sem.run_bind, run_underlying ht, Result.andThen_ok, Instr.slice, Instr.sliceBounds, b1 km m cap _ h2, b1 kh h m _ h1, Sem.run_pure, run_sizeOf_eq hi, Nat.zero_mul, Nat.sub_zero]
  by_cases hz : m = 0
  · simp [hz]
  · simp [hz, add_none]
end Go.Proofs.YtohefdmfnllehaaGreat.Ev
/- A world begun: the walk. -/
namespace Go.Proofs.YtohefdmfnllehaaGreat.Bgn
open Go Ev Sha Aes Orc Node Rec Chn Jrn Cau Sto Ivs Ctr Aut Wld
open Rig (Fnc_takeR RigP Rg rgM z64 app_of RigA r0)
open Tree (TreP TreA Tre treM TI Same updB)
set_option linter.unusedVariables false
set_option linter.unusedSimpArgs false
set_option maxRecDepth 100000
theorem WI.mono {a : RigA} {A : StoA} {on : Nat} {S : Sy} {f0 f1 : Nat → ByteArray} {m b m' b' : Nat} (h : WI a A on S f0 f1 m b) (hm : m ≤ m') (hb : b ≤ b') : WI a A on S f0 f1 m' b' := by
  have h1 := h.sh0
  have h2 := h.sh1
  have h3 := h.len
  have h4 := h.cnt
  exact ⟨h.sok, h.on, h.t0, h.t1, h.d0, h.d1, by omega, by omega, by omega, h.vok, h.key, ⟨h4.1, by omega⟩⟩
theorem fine_0 : Fine r0 := ⟨rfl, rfl, rfl, rfl⟩
theorem rnew' : Fnc Tryz.prog 70 [] [] (fun e A => ∃ a : RigA, e = .returned (pt a.rn) ∧ A = rgM ⟨a, r0⟩) := Rig.rnew
def z32 : ByteArray := str (List.replicate 32 0)
theorem z32_' : Fnc Tryz.prog 44 [.int .i64 32] [] (Ret (.string z32) []) := z32_
noncomputable def sup0 (many : Int) : ByteArray := Geom.supS 64 8 many z32
theorem right0 {many : Int} (h : 1 ≤ many ∧ many ≤ 1099511627776) : Geom.Right 64 8 many := by
  unfold Geom.Right
  omega
theorem fmT_len (super : ByteArray) : (fmT [] super).length ≤ 2022 := by
  unfold fmT
  have h1 := frT_len [] super 0 0
  have h2 := frT_len (frT [] super 0 0) super 1 0
  simp only [List.length_nil] at h1
  omega
theorem mmk_0 : mmk 0 = emp := rfl
theorem st_wi {P : Program} {M : List Blk} {n rn on : Nat} {vp : Option Addr} {f g : Nat → ByteArray} {T : TypeId} {F : Blk → List Blk} {k : List Blk → Prop} [z : Zip M n (.row (wdC rn on vp f g) T) F] {i j : Nat} {s : ByteArray} (hj : j = 3 + i) (hi : i < 128) (hk : k (F ⟨n, .row (wdC rn on vp (updB f i s) g) T⟩)) : StN P M n j [.string s] k := by
  subst hj; exact st_wm hi hk
theorem new_fm (s : Sto) {rn on : Nat} {many : Int} {super : ByteArray} (hV : s.V = fmV0 rn on 64 8 many super) (h : 1 ≤ many ∧ many ≤ 1099511627776) :
    Fnc Tryz.prog 25 [pt s.A.sn, .string keyS] [stB s.A.sn s.c] (fun e A => ∃ B : VA, e = .returned (.tuple #[pt B.vn, .int .i64 0]) ∧ A = vM B s.A.sn ⟨keyT keyS, ⟨0, 0, many⟩, 0⟩ ++ [stB s.A.sn s.c]) := by
  have h1 := new_ok s.A.sn s.c keyS keyS_size (by
    unfold Sto.c; rw [hV]; exact ⟨h.1, h.2, Int.le_refl _, (by show (0 : Int) ≤ many; omega)⟩)
  rw [show s.c.is.iv = 0 by unfold Sto.c; rw [hV]; rfl, show s.c.g2 = many by unfold Sto.c; rw [hV]; rfl] at h1
  exact h1
attribute [local irreducible] stoR Sto.c rgM r0 srF RgV.lay wdC rowS fmR fmT fmV mmk rowK keyT keyS z48 z32 sup0 fmV0
set_option maxHeartbeats 4000000 in
theorem begunF (many : Int) (h_ : 1 ≤ many ∧ many ≤ 1099511627776) :
    Fnc Tryz.prog 15 [.int .i64 many] [] (fun e M => ∃ (wn : Nat) (a : RigA) (A : StoA) (B : VA) (S : Sy) (f g : Nat → ByteArray), WI a A S.o.on S (fun _ => z64) (fun _ => z64) 0 2100 ∧ S.r = fmR r0 (sup0 many) ∧ S.o.ts = fmT [] (sup0 many) ∧ S.V = fmV0 a.rn S.o.on 64 8 many (sup0 many) ∧ S.v = ⟨keyT keyS, ⟨0, 0, many⟩, 0⟩ ∧ f = mmk 64 ∧ g = mmk 64 ∧ e = .returned (pt wn) ∧
      M = wdB wn a.rn S.o.on (some ⟨B.vn, 0, none⟩) f g :: syM a A B S) := by
  have hf : ∀ (a : RigA) (o : Orc), o.ts = [] → Fnc Tryz.prog 72 [pt a.rn, pt o.on, .agg #[.int .i64 64, .int .i64 8, .int .i64 many], .string z32] (rgM ⟨a, r0⟩ ++ orcM o)
      (fun e A => ∃ (s : Sto) (o' : Orc), o'.on = o.on ∧ o'.ts = fmT o.ts (sup0 many) ∧ s.V = fmV0 a.rn o.on 64 8 many (sup0 many) ∧ SOk s a.rn o.on ∧ e = .returned (.tuple #[pt s.A.sn, .int .i64 0]) ∧
        A = rgM ⟨a, fmR r0 (sup0 many)⟩ ++ (orcM o' ++ (stB s.A.sn s.c :: stoR s))) := fun a o ho => by
    have h := format_ ⟨a, r0⟩ o 64 8 many z32 fine_0 (right0 h_) (by unfold z32; rfl) (by rw [ho]; decide)
    rw [show Geom.supS 64 8 many z32 = sup0 many by unfold sup0; rfl] at h
    unfold stoM at h
    exact h
  refine fn_intro Tryz.func15 (by kernel_rfl) ?_
  repeat' ((conv => whnf); first
      | (refine call_g rnew' .nil (fun e A' hq => ?_); obtain ⟨a, a1, a2⟩ := hq; subst a1; subst a2)
      | (refine call_g onew .nil (fun e A' hq => ?_); obtain ⟨o, b1, b2, b3⟩ := hq; subst b2; subst b3)
      | refine call_val shape ?_
      | refine call_val z32_' ?_
      | refine call_val key_ ?_
      | refine nw_row (cs' := wdC a.rn o.on none emp emp) (wd0_e _ _) (fun wn => ?_)
      | refine draw_any 4 [(0, true), (1, true), (2, true), (4, true), (5, true), (6, true), (3, true), (7, true), (8, true), (9, false), (10, false), (11, true), (12, true), (13, true), (14, true), (15, true)] [⟨wn, _⟩, ⟨n, _⟩] rfl (by kernel_rfl) (kept_of (.cons takeC (.cons takeC .nil)) ?_)
      | refine kept_of (.cons takeC (.cons takeC .nil)) ?_
      | refine fld1_row (n := wn) wdC_0 ?_
      | refine fld1_row (n := wn) wdC_1 ?_
      | refine fldN ?_
      | refine fld1 ?_
      | (refine call_g (hf a o b1) (.grp takeG (.one takeG)) (fun e A' hq => ?_); obtain ⟨s, o', c1, c2, c3, c4, c5, c6⟩ := hq; subst c5; subst c6)
      | (refine call_g (new_fm s c3 h_) (.blk takeC .nil) (fun e A' hq => ?_); obtain ⟨B, d1, d2⟩ := hq; subst d1; subst d2)
      | refine st_wv ?_
      | refine ld1_lit ?_
      | refine ldN_lit ?_
      | refine nw (fun n => ?_)
      | refine bld ?_
      | refine st_lit rfl ?_
      | refine need (by first | rfl | omega) ?_
      | (refine wr (fun z hz => ?_); (try rw [Int.tdiv_eq_ediv_of_nonneg (by omega)] at hz); rw [w64 (by omega) (by omega)] at hz; subst hz)
      | (refine zv (fun z hz => ?_); (try rw [Int.tmod_eq_emod_of_nonneg (by omega)] at hz); subst hz)
      | (refine ifs (fun h => ?_) (fun h => ?_) <;> (try (exfalso; first | omega | with_reducible contradiction | with_reducible exact h rfl))))
  all_goals (conv => whnf)
  obtain ⟨S, eS⟩ : ∃ S : Sy, S = ⟨fmR r0 (sup0 many), o', s.V, ⟨keyT keyS, ⟨0, 0, many⟩, 0⟩⟩ := ⟨_, rfl⟩
  have hsy : rgM ⟨a, fmR r0 (sup0 many)⟩ ++ (orcM o' ++ (stB s.A.sn s.c :: (stoR s ++ vM B s.A.sn ⟨keyT keyS, ⟨0, 0, many⟩, 0⟩))) = syM a s.A B S := by
    rw [eS]; unfold syM sysM; simp only [List.append_assoc, List.cons_append]
  refine loop_rule [9] (fun vs M m => ∃ (k : Nat), vs = [.int .i64 k] ∧ k ≤ 64 ∧ m = 64 - k ∧ M = wdB wn a.rn o.on (some ⟨B.vn, 0, none⟩) (mmk k) emp :: syM a s.A B S) rfl ?_ ?_
  · exact fin_g (A := wdB wn a.rn o.on _ emp emp :: (rgM ⟨a, fmR r0 (sup0 many)⟩ ++ (orcM o' ++ (stB s.A.sn _ :: (stoR s ++ vM B s.A.sn _))))) (.blk takeC (.grp takeG (.grp takeG (.blk takeC (.grp takeG (.one takeG)))))) ⟨_, 0, rfl, by omega, rfl, by rw [← hsy, mmk_0]⟩
  rintro vs junk M' m ⟨k, rfl, hk, rfl, rfl⟩
  by_cases hk6 : k < 64
  · repeat' ((conv => whnf); first
      | refine draw_any 14 [(0, true), (1, true), (3, true), (4, true), (5, true), (2, false), (6, true), (7, false)] [] rfl (by kernel_rfl) (kept_nil ?_)
      | refine draw_any 15 [(0, true), (1, true), (3, true), (4, true), (5, true), (2, false), (6, true), (7, false)] [] rfl (by kernel_rfl) (kept_nil ?_)
      | refine kept_nil ?_
      | refine call_val z48_ ?_
      | (refine nv (fun z hz => ?_); (try simp at hz); replace hz := hz.symm; subst hz)
      | refine need (by omega) ?_
      | refine st_wi (i := k) (by omega) (by omega) ?_
      | refine st_wi (i := 64 + k) (by omega) (by omega) ?_
      | refine ld1_lit ?_
      | refine ldN_lit ?_
      | refine nw (fun n => ?_)
      | refine bld ?_
      | refine st_lit rfl ?_
      | refine need (by first | rfl | omega) ?_
      | (refine wr (fun z hz => ?_); (try rw [Int.tdiv_eq_ediv_of_nonneg (by omega)] at hz); rw [w64 (by omega) (by omega)] at hz; subst hz)
      | (refine zv (fun z hz => ?_); (try rw [Int.tmod_eq_emod_of_nonneg (by omega)] at hz); subst hz)
      | (refine ifs (fun h => ?_) (fun h => ?_) <;> (try (exfalso; first | omega | with_reducible contradiction | with_reducible exact h rfl))))
    all_goals (conv => whnf)
    all_goals exact ⟨rfl, fin_all ⟨64 - (k + 1), by omega, k + 1, rfl, by omega, rfl, by rw [mmk_s]⟩⟩
  obtain rfl : k = 64 := by omega
  repeat' ((conv => whnf); first
      | refine ldN_row (n := wn) _ wdC_m (rowS_len _) ?_
      | refine force_of ?_
      | (refine need ?_ ?_; exact rowS_len _)
      | refine st_wo ?_
      | refine ld1_lit ?_
      | refine ldN_lit ?_
      | refine nw (fun n => ?_)
      | refine bld ?_
      | refine st_lit rfl ?_
      | refine need (by first | rfl | omega) ?_
      | (refine wr (fun z hz => ?_); (try rw [Int.tdiv_eq_ediv_of_nonneg (by omega)] at hz); rw [w64 (by omega) (by omega)] at hz; subst hz)
      | (refine zv (fun z hz => ?_); (try rw [Int.tmod_eq_emod_of_nonneg (by omega)] at hz); subst hz)
      | (refine ifs (fun h => ?_) (fun h => ?_) <;> (try (exfalso; first | omega | with_reducible contradiction | with_reducible exact h rfl))))
  all_goals (conv => whnf)
  have hso : S.o.on = o.on := by rw [eS]; exact c1
  rw [b1] at c2
  have hwi : WI a s.A S.o.on S (fun _ => z64) (fun _ => z64) 0 2100 := by
    rw [hso, eS]
    have h1 := wi_new (k := keyT keyS) (o := o') fine_0 c4 c3 c1 h_ (by8_keyT keyS)
    have h2 := fmT_len (sup0 many)
    exact WI.mono h1 (Nat.le_refl _) (by rw [c2]; omega)
  all_goals exact fin_all ⟨wn, a, s.A, B, S, _, _, hwi, by rw [eS], by rw [eS]; exact c2, by rw [hso, eS]; exact c3, by rw [eS], rfl, rfl, rfl, by rw [hso]⟩
theorem begun_ (many : Int) (h_ : 1 ≤ many ∧ many ≤ 1099511627776) :
    Fnc Tryz.prog 15 [.int .i64 many] [] (fun e M => ∃ (wn : Nat) (a : RigA) (A : StoA) (B : VA) (S : Sy) (f g : Nat → ByteArray), WI a A S.o.on S (fun _ => z64) (fun _ => z64) 0 2100 ∧ S.v.x = ⟨0, 0, many⟩ ∧ S.v.n = 0 ∧ S.V.g2 = many ∧ e = .returned (pt wn) ∧
      M = wdB wn a.rn S.o.on (some ⟨B.vn, 0, none⟩) f g :: syM a A B S) := by
  refine Fnc_mono (begunF many h_) ?_
  rintro e M ⟨wn, a, A, B, S, f, g, h1, h2, h3, h4, h5, h6, h7, h8, h9⟩
  exact ⟨wn, a, A, B, S, f, g, h1, by rw [h5], by rw [h5], by rw [h4]; unfold fmV0; rfl, h8, h9⟩
end Go.Proofs.YtohefdmfnllehaaGreat.Bgn
/- What must come at any rate of a vault: it comes. -/
namespace Go.Proofs.YtohefdmfnllehaaGreat.Bgn
open Go Ev Sha Aes Orc Node Rec Chn Jrn Cau Sto Ivs Ctr Aut Wld
open Rig (Fnc_takeR RigP Rg rgM z64 app_of RigA r0)
open Tree (TreP TreA Tre treM TI Same updB)
set_option linter.unusedVariables false
set_option linter.unusedSimpArgs false
set_option maxRecDepth 100000
/-- A call that leaves what it asks for. -/
theorem Fnc_keep {P : Program} {f : FuncId} {args : List Value} {A M R : List Blk} {v : Value} (h : Fnc P f args A (Ret v A)) (ht : TakesG M A R) : Fnc P f args M (Ret v M) :=
  Fnc_drop (Fnc_takeR h ht) fun e A' ⟨h1, h2⟩ => by subst h2; exact ⟨⟨M, [], by rw [List.append_nil]; exact ht.perm.symm, h1, rfl⟩⟩
section
variable {a : RigA} {A : StoA} {B : VA} {on : Nat} {S : Sy} {f0 f1 : Nat → ByteArray} {m b : Nat}
theorem w_store : Fnc Tryz.prog 26 [pt B.vn] (syM a A B S) (Ret (pt A.sn) (syM a A B S)) := by
  unfold syM vM
  exact Fnc_keep (Aut.store_ B A.sn S.v) (.blk takeC .nil)
theorem w_sealed : Fnc Tryz.prog 28 [pt B.vn] (syM a A B S) (Ret (.int .i64 S.v.n) (syM a A B S)) := by
  unfold syM vM
  exact Fnc_keep (Aut.sealed_ B A.sn S.v) (.blk takeC .nil)
theorem w_left (h : WI a A on S f0 f1 m b) : Fnc Tryz.prog 27 [pt B.vn] (syM a A B S) (Ret (.int .i64 (S.v.x.many - S.v.x.next)) (syM a A B S)) := by
  unfold syM vM
  exact Fnc_keep (Aut.left_ B A.sn S.v h.vok.row) (.blk takeC (.blk takeC .nil))
end
theorem fs_0 (f0 f1 : Nat → ByteArray) : fs f0 f1 0 = f0 := rfl
theorem fs_1 (f0 f1 : Nat → ByteArray) : fs f0 f1 1 = f1 := rfl
theorem up0_0 (f : Nat → ByteArray) (l : Nat) (s : ByteArray) : up0 f 0 l s = updB f l s := rfl
theorem up0_1 (f : Nat → ByteArray) (l : Nat) (s : ByteArray) : up0 f 1 l s = f := rfl
theorem up1_0 (f : Nat → ByteArray) (l : Nat) (s : ByteArray) : up1 f 0 l s = f := rfl
theorem up1_1 (f : Nat → ByteArray) (l : Nat) (s : ByteArray) : up1 f 1 l s = updB f l s := rfl
theorem updB_at (f : Nat → ByteArray) (l : Nat) (s : ByteArray) : updB f l s l = s := by unfold updB; rw [if_pos rfl]
theorem kd_z {s : ByteArray} (h : kdOk s) : s ≠ z64 := by
  rintro rfl
  have h1 := h.2.2.2.1
  have e : byte8 z64 = 0 := by unfold byte8 byteAt z64; rfl
  omega
def a48 : ByteArray := Be.full ⟨#[97]⟩ 48
theorem a48_size : a48.size = 48 := by
  unfold a48 Be.full
  rw [if_neg (by decide), ByteArray.size_append, Ev.str_size]
  rfl
theorem a48_ : Fnc Tryz.prog 52 [.string ⟨#[97]⟩, .int .i64 48] [] (Ret (.string a48) []) := Be.full01 ⟨#[97]⟩ 48 (by decide) (by decide)
def zf : Nat → ByteArray := fun _ => z64
theorem zf_FB : FB zf := fun l _ => .inl rfl
attribute [local irreducible] wdC syM z64 a48 sealB updB
theorem WI.kd {a : RigA} {A : StoA} {on : Nat} {S : Sy} {f0 f1 : Nat → ByteArray} {m b : Nat} (h : WI a A on S f0 f1 m b) (hn : S.v.x.next < S.v.x.many) {s : ByteArray} (hs : s.size = 48) : kdOk (sealB S.v s) := sealB_ok h.vok hn hs
theorem dat_seal {a : RigA} {A : StoA} {on : Nat} {S : Sy} {f0 f1 : Nat → ByteArray} {m b : Nat} (h : WI a A on S f0 f1 m b) (hn : S.v.x.next < S.v.x.many) {s : ByteArray} (hs : s.size = 48) : dat S.v.k (sealB S.v s) = s := by
  have hk := WI.kd h hn hs
  unfold dat
  rw [if_neg (kd_z hk)]
  unfold sealB
  exact body_seal _ (num_ok h.vok hn) hs
theorem awake_ : Fnc Tryz.prog 16 [] [] (Ret (.bool true) []) := by
  have hb := begun_ 100 (by decide)
  refine fn_intro Tryz.func16 (by kernel_rfl) ?_
  repeat' ((conv => whnf); first
      | (refine call_g hb .nil (fun e A' hq => ?_); obtain ⟨wn, a, A, B, S, f, g, w0, x0, n0, z0, e0, m0⟩ := hq; subst e0; subst m0)
      | refine call_val a48_ ?_
      | refine ld1_lit ?_
      | refine ldN_lit ?_
      | refine nw (fun n => ?_)
      | refine bld ?_
      | refine st_lit rfl ?_
      | refine need (by first | rfl | omega) ?_
      | (refine wr (fun z hz => ?_); (try rw [Int.tdiv_eq_ediv_of_nonneg (by omega)] at hz); rw [w64 (by omega) (by omega)] at hz; subst hz)
      | (refine zv (fun z hz => ?_); (try rw [Int.tmod_eq_emod_of_nonneg (by omega)] at hz); subst hz)
      | (refine ifs (fun h => ?_) (fun h => ?_) <;> (try (exfalso; first | omega | with_reducible contradiction | with_reducible exact h rfl))))
  all_goals (conv => whnf)
  have hn : S.v.x.next < S.v.x.many := by rw [x0]; decide
  have hkd := WI.kd w0 hn a48_size
  have c1 := w_write (B := B) w0 (d := 0) (l := 5) (s := a48) (.inl rfl) (by omega) a48_size hn (by omega) (by omega)
  have hdat := dat_seal w0 hn a48_size
  obtain ⟨q, eq⟩ : ∃ q, q = sealB S.v a48 := ⟨_, rfl⟩
  rw [← eq] at hkd c1 hdat
  rw [up0_0, up1_0] at c1
  have hq5 := updB_at (fun _ => z64) 5 q
  have hq6 := updB_at (fun _ => z64) 6 q
  have hFB0 : FB (updB (fun _ => z64) 5 q) := zf_FB.upd 5 (.inr hkd)
  have hFB1 : FB (updB (fun _ => z64) 6 q) := zf_FB.upd 6 (.inr hkd)
  obtain ⟨g0, eg0⟩ : ∃ g0, g0 = updB (fun _ => z64) 5 q := ⟨_, rfl⟩
  obtain ⟨g1, eg1⟩ : ∃ g1, g1 = updB (fun _ => z64) 6 q := ⟨_, rfl⟩
  rw [← eg0] at c1 hq5 hFB0
  have c2 : ∀ S1 : Sy, WI a A S.o.on S1 g0 (fun _ => z64) 8 2113 ∧ S1.v = sealX S.v → Fnc Tryz.prog 18 [pt B.vn, .int .i64 0, .int .i64 5, .int .i64 1, .int .i64 6] (syM a A B S1) (AQ a A B (fun S' => WI a A S.o.on S' g0 g1 15 2133 ∧ S'.v = S1.v) (.int .i64 0)) := fun S1 h1 => by
    have := w_copy (B := B) h1.1 (d := 0) (e := 1) (l := 5) (t := 6) (.inl rfl) (by omega) (.inr rfl) (by omega) (by rw [fs_0, hq5]; exact hkd.1) (by omega) (by omega)
    rw [fs_0, hq5, up0_1, up1_1, ← eg1] at this
    exact this
  rw [← eg1] at hq6 hFB1
  have c3 : ∀ S1 : Sy, WI a A S.o.on S1 g0 g1 15 2133 ∧ S1.v = sealX S.v → Fnc Tryz.prog 17 [pt B.vn, .int .i64 1, .int .i64 6] (syM a A B S1) (AQ a A B (fun S' => WI a A S.o.on S' g0 g1 15 2140 ∧ S'.v = S1.v) (.tuple #[.string a48, .int .i64 0])) := fun S1 h1 => by
    have := w_read (B := B) h1.1 ⟨hFB0, hFB1⟩ (d := 1) (l := 6) (.inr rfl) (by omega) (by omega)
    rw [fs_1, hq6, h1.2, show (sealX S.v).k = S.v.k from rfl, hdat] at this
    rw [h1.2]
    exact this
  have c4 : ∀ S1 : Sy, WI a A S.o.on S1 g0 g1 15 2140 → Fnc Tryz.prog 42 [pt A.sn, .int .i64 0, .int .i64 5] (syM a A B S1) (AQ a A B (fun S' => WI a A S.o.on S' g0 g1 15 2147 ∧ S'.v = S1.v) (.tuple #[.string q, .bool true, .int .i64 0])) := fun S1 h1 => by
    have := w_get (B := B) h1 (d := 0) (l := 5) (.inl rfl) (by omega) (by rw [fs_0, hq5]; exact kd_z hkd) (by omega)
    rw [fs_0, hq5] at this
    exact this
  have c5 : ∀ S1 : Sy, WI a A S.o.on S1 g0 g1 15 2147 → Fnc Tryz.prog 42 [pt A.sn, .int .i64 1, .int .i64 6] (syM a A B S1) (AQ a A B (fun S' => WI a A S.o.on S' g0 g1 15 2154 ∧ S'.v = S1.v) (.tuple #[.string q, .bool true, .int .i64 0])) := fun S1 h1 => by
    have := w_get (B := B) h1 (d := 1) (l := 6) (.inr rfl) (by omega) (by rw [fs_1, hq6]; exact kd_z hkd) (by omega)
    rw [fs_1, hq6] at this
    exact this
  have hsd : ∀ S1 : Sy, S1.v = sealX S.v → Fnc Tryz.prog 28 [pt B.vn] (syM a A B S1) (Ret (.int .i64 1) (syM a A B S1)) := fun S1 h => by
    have := w_sealed (a := a) (A := A) (B := B) (S := S1)
    rw [h, show (sealX S.v).n = 1 by unfold sealX; rw [n0]; rfl] at this
    exact this
  have hlf : ∀ S1 : Sy, WI a A S.o.on S1 g0 g1 15 2154 → S1.v = sealX S.v → Fnc Tryz.prog 27 [pt B.vn] (syM a A B S1) (Ret (.int .i64 99) (syM a A B S1)) := fun S1 h1 h => by
    have := w_left (B := B) h1
    rw [h, show (sealX S.v).x.many - (sealX S.v).x.next = 99 by unfold sealX numX; rw [x0]; rfl] at this
    exact this
  repeat' ((conv => whnf); first
      | refine ld1_row wdC_2 ?_
      | refine call_a c1 (.one takeE) (fun S1 h1 => ?_)
      | refine call_a (c2 S1 h1) (.one takeE) (fun S2 h2 => ?_)
      | refine call_a (c3 S2 ⟨h2.1, h2.2.trans h1.2⟩) (.one takeE) (fun S3 h3 => ?_)
      | refine call_a (c4 S3 h3.1) (.one takeE) (fun S4 h4 => ?_)
      | refine call_a (c5 S4 h4.1) (.one takeE) (fun S5 h5 => ?_)
      | refine call_gr (w_store (a := a) (A := A) (B := B) (S := S3)) (.one takeE) ?_
      | refine call_gr (w_store (a := a) (A := A) (B := B) (S := S4)) (.one takeE) ?_
      | refine call_gr (hsd S5 (h5.2.trans (h4.2.trans (h3.2.trans (h2.2.trans h1.2))))) (.one takeE) ?_
      | refine call_gr (hlf S5 h5.1 (h5.2.trans (h4.2.trans (h3.2.trans (h2.2.trans h1.2))))) (.one takeE) ?_
      | refine ld1_lit ?_
      | refine ldN_lit ?_
      | refine nw (fun n => ?_)
      | refine bld ?_
      | refine st_lit rfl ?_
      | refine need (by first | rfl | omega) ?_
      | (refine wr (fun z hz => ?_); (try rw [Int.tdiv_eq_ediv_of_nonneg (by omega)] at hz); rw [w64 (by omega) (by omega)] at hz; subst hz)
      | (refine zv (fun z hz => ?_); (try rw [Int.tmod_eq_emod_of_nonneg (by omega)] at hz); subst hz)
      | (refine ifs (fun h => ?_) (fun h => ?_) <;> (try (exfalso; first | omega | with_reducible contradiction | with_reducible exact h rfl))))
  all_goals (conv => whnf)
  all_goals exact fin_nil ⟨rfl, rfl⟩
end Go.Proofs.YtohefdmfnllehaaGreat.Bgn
/- A store on any rig: what may fail at any step. -/
namespace Go.Proofs.YtohefdmfnllehaaGreat.Stg
open Go Ev Sha Aes Orc Node Rec Chn Jrn Cau Sto
open Rig (Fnc_takeR RigP Rg rgM readR writeR flushR setRegR z64 app_of tick comes write_ flush_ setreg_ mayE RigA)
set_option linter.unusedVariables false
set_option linter.unusedSimpArgs false
set_option maxRecDepth 100000
/-- A row of steps, each of which may fail. -/
def lp {σ : Type} (f : Nat → σ → σ × Int) : Nat → Nat → σ → σ × Int
  | 0, _, s => (s, 0)
  | n + 1, i, s => if (f i s).2 = 0 then lp f n (i + 1) (f i s).1 else f i s
theorem lp_0 {σ : Type} (f : Nat → σ → σ × Int) (i : Nat) (s : σ) : lp f 0 i s = (s, 0) := rfl
theorem lp_ok {σ : Type} {f : Nat → σ → σ × Int} {n i : Nat} {s : σ} (h : (f i s).2 = 0) : lp f (n + 1) i s = lp f n (i + 1) (f i s).1 := if_pos h
theorem lp_no {σ : Type} {f : Nat → σ → σ × Int} {n i : Nat} {s : σ} (h : (f i s).2 ≠ 0) : lp f (n + 1) i s = f i s := if_neg h
/-- One thing behind another, if that did not fail. -/
def bd {σ τ : Type} (x : σ × Int) (g : σ → σ × Int) : σ × Int := if x.2 = 0 then g x.1 else x
theorem bd_ok {σ τ : Type} {x : σ × Int} {g : σ → σ × Int} (h : x.2 = 0) : bd (τ := τ) x g = g x.1 := if_pos h
/-- It ends, or gives up with c. -/
def Pe (c : Int) (e : Ending) : Prop := (c = 0 ∧ e = .returned (.tuple #[])) ∨ (c ≠ 0 ∧ e = .panicked (pe c))
structure Rt where
  r : RigP
  ts : List ByteArray
/-! The register, and devices. -/
open Classical in
noncomputable def setG (r : RigP) (y : RgV) : RigP × Int := if y.ok then setRegR r y.lay else (r, 2)
attribute [local irreducible] dgV D jC wrF rcC stC regC RgV.lay rgM setRegR
theorem rput_no (x : RgV) (h : ¬ x.ok) : Fnc Tryz.prog 205 [.agg (regC x).toArray] [] (Ret (.tuple #[.string ⟨#[]⟩, .int .i64 2]) []) := by
  rw [regC_L]; exact Reg.put_f x.a0 h
theorem setg (a : RigA) (r : RigP) (sn : Nat) (x : StP) (y : RgV) (hrn : x.rn = a.rn) :
    Fnc Tryz.prog 135 [pt sn, .agg (regC y).toArray] (rgM ⟨a, r⟩ ++ [stB sn x])
      (fun e M => Pe (setG r y).2 e ∧ M = rgM ⟨a, (setG r y).1⟩ ++ [stB sn (if (setG r y).2 = 0 then { x with is := y } else x)]) := by
  by_cases hy : y.ok
  · have hp := rput y hy
    have hs := setreg_ ⟨a, r⟩ y.lay
    rw [show (⟨a, r⟩ : Rg).a.rn = x.rn from hrn.symm] at hs
    rw [show setG r y = setRegR r y.lay by unfold setG; rw [if_pos hy]]
    obtain ⟨q, eq⟩ : ∃ q, q = setRegR r y.lay := ⟨_, rfl⟩
    dsimp only at hs
    rw [← eq] at hs ⊢
    refine fn_intro Tryz.func135 (by kernel_rfl) ?_
    repeat' ((conv => whnf); first
        | refine force_of ?_
        | refine nw_row (cs' := regC y) rfl (fun n => ?_)
        | refine ldN_whole (regC_len _) ?_
        | refine call_val hp ?_
        | refine call_val must_ok ?_
        | refine ld1_row (n := sn) stC_0 ?_
        | refine call_gr hs (.one takeG) ?_
        | (refine call_g (must_any _) .nil (fun e A' hq => ?_); obtain ⟨p0, ⟨p1, p2⟩ | ⟨p1, p2⟩⟩ := hq <;> subst p2 <;> subst p0)
        | (refine need ?_ ?_; exact regC_len _)
        | refine st_is ?_
        | refine ld1_lit ?_
        | refine ldN_lit ?_
        | refine nw (fun n => ?_)
        | refine bld ?_
        | refine st_lit rfl ?_
        | refine need (by first | rfl | omega) ?_
        | (refine wr (fun z hz => ?_); (try rw [Int.tdiv_eq_ediv_of_nonneg (by omega)] at hz); rw [w64 (by omega) (by omega)] at hz; subst hz)
        | (refine zv (fun z hz => ?_); (try rw [Int.tmod_eq_emod_of_nonneg (by omega)] at hz); subst hz)
        | (refine ifs (fun h => ?_) (fun h => ?_) <;> (try (exfalso; first | omega | with_reducible contradiction | with_reducible exact h rfl))))
    all_goals (conv => whnf)
    · rw [if_pos p1]
      exact fin_g (A := rgM _ ++ [stB sn _]) (.grp takeG (.blk takeC .nil)) ⟨.inl ⟨p1, rfl⟩, rfl⟩
    · rw [if_neg p1]
      exact fin_g (A := rgM _ ++ [stB sn _]) (.grp takeG (.blk takeC .nil)) ⟨.inr ⟨p1, rfl⟩, rfl⟩
  · have hp := rput_no y hy
    have hm := must_no 2 (by decide)
    rw [show setG r y = (r, 2) by unfold setG; rw [if_neg hy]]
    rw [if_neg (show ¬ (2 : Int) = 0 by decide)]
    refine fn_intro Tryz.func135 (by kernel_rfl) ?_
    repeat' ((conv => whnf); first
        | refine force_of ?_
        | refine nw_row (cs' := regC y) rfl (fun n => ?_)
        | refine ldN_whole (regC_len _) ?_
        | refine call_val hp ?_
        | (refine call_g hm .nil (fun e A' hq => ?_); obtain ⟨p1, p2⟩ := hq; subst p1; subst p2)
        | (refine need ?_ ?_; exact regC_len _)
        | refine ld1_lit ?_
        | refine ldN_lit ?_
        | refine nw (fun n => ?_)
        | refine bld ?_
        | refine st_lit rfl ?_
        | refine need (by first | rfl | omega) ?_
        | (refine wr (fun z hz => ?_); (try rw [Int.tdiv_eq_ediv_of_nonneg (by omega)] at hz); rw [w64 (by omega) (by omega)] at hz; subst hz)
        | (refine zv (fun z hz => ?_); (try rw [Int.tmod_eq_emod_of_nonneg (by omega)] at hz); subst hz)
        | (refine ifs (fun h => ?_) (fun h => ?_) <;> (try (exfalso; first | omega | with_reducible contradiction | with_reducible exact h rfl))))
    all_goals (conv => whnf)
    all_goals exact fin_g (A := rgM _ ++ [stB sn _]) (.grp takeG (.blk takeC .nil)) ⟨.inr ⟨show (2 : Int) ≠ 0 by decide, rfl⟩, rfl⟩
/-- Devices flushed. -/
def flG (l : List Nat) : Nat → RigP → RigP × Int := fun i r => flushR r ((l[i]?).getD 0 : Nat)
theorem flushg (a : RigA) (r : RigP) (sn ln c : Nat) (x : StP) (l : List Nat) (hrn : x.rn = a.rn) (hl : l.length ≤ 2) :
    Fnc Tryz.prog 134 [pt sn, .slice (some ⟨ln, 0, none⟩) l.length c] (rgM ⟨a, r⟩ ++ [stB sn x, ⟨ln, .row (l.map fun d => .int .i64 (d : Nat)) 3⟩])
      (fun e M => Pe (lp (flG l) l.length 0 r).2 e ∧ M = rgM ⟨a, (lp (flG l) l.length 0 r).1⟩ ++ [stB sn x, ⟨ln, .row (l.map fun d => .int .i64 (d : Nat)) 3⟩]) := by
  have hf := fun (r : RigP) (d : Nat) => flush_ ⟨a, r⟩ d
  simp only [← hrn] at hf
  refine fn_intro Tryz.func134 (by kernel_rfl) ?_
  repeat' ((conv => whnf); first
      | refine ld1_lit ?_
      | refine ldN_lit ?_
      | refine nw (fun n => ?_)
      | refine bld ?_
      | refine st_lit rfl ?_
      | refine need (by first | rfl | omega) ?_
      | (refine wr (fun z hz => ?_); (try rw [Int.tdiv_eq_ediv_of_nonneg (by omega)] at hz); rw [w64 (by omega) (by omega)] at hz; subst hz)
      | (refine zv (fun z hz => ?_); (try rw [Int.tmod_eq_emod_of_nonneg (by omega)] at hz); subst hz)
      | (refine ifs (fun h => ?_) (fun h => ?_) <;> (try (exfalso; first | omega | with_reducible contradiction | with_reducible exact h rfl))))
  all_goals (conv => whnf)
  refine loop_rule [8] (fun vs M m => ∃ (k : Nat) (r' : RigP), vs = [.int .i64 k] ∧ k ≤ l.length ∧ m = l.length - k ∧ lp (flG l) (l.length - k) k r' = lp (flG l) l.length 0 r ∧ M = rgM ⟨a, r'⟩ ++ [stB sn x, ⟨ln, .row (l.map fun d => .int .i64 (d : Nat)) 3⟩]) rfl ?_ ?_
  · exact fin_all ⟨_, 0, r, rfl, by omega, rfl, by rw [Nat.sub_zero], rfl⟩
  rintro vs junk M' m ⟨k, r', rfl, hk, rfl, hR, rfl⟩
  by_cases hk6 : k < l.length
  · have hg : (l.map fun d => Value.int .i64 (d : Nat))[k]? = some (.int .i64 (l[k] : Nat)) := by rw [List.getElem?_map, List.getElem?_eq_getElem hk6]; rfl
    have hF : flG l k r' = flushR r' (l[k] : Nat) := by unfold flG; rw [List.getElem?_eq_getElem hk6]; rfl
    have hf2 := hf r' l[k]
    rw [← hF] at hf2
    rw [show l.length - k = l.length - (k + 1) + 1 by omega] at hR
    repeat' ((conv => whnf); first
        | (refine nv (fun z hz => ?_); (try simp at hz); replace hz := hz.symm; subst hz)
        | refine need (by simp; omega) ?_
        | refine ld1_row hg ?_
        | refine ld1_row (n := sn) stC_0 ?_
        | refine call_gr hf2 (.one takeG) ?_
        | (refine call_g (must_any _) .nil (fun e A' hq => ?_); obtain ⟨p0, ⟨p1, p2⟩ | ⟨p1, p2⟩⟩ := hq <;> subst p2 <;> subst p0)
        | refine ld1_lit ?_
        | refine ldN_lit ?_
        | refine nw (fun n => ?_)
        | refine bld ?_
        | refine st_lit rfl ?_
        | refine need (by first | rfl | omega) ?_
        | (refine wr (fun z hz => ?_); (try rw [Int.tdiv_eq_ediv_of_nonneg (by omega)] at hz); rw [w64 (by omega) (by omega)] at hz; subst hz)
        | (refine zv (fun z hz => ?_); (try rw [Int.tmod_eq_emod_of_nonneg (by omega)] at hz); subst hz)
        | (refine ifs (fun h => ?_) (fun h => ?_) <;> (try (exfalso; first | omega | with_reducible contradiction | with_reducible exact h rfl))))
    all_goals (conv => whnf)
    · rw [lp_ok p1] at hR
      exact ⟨rfl, fin_g (A := rgM _ ++ [stB sn x, _]) (.grp takeG (.blk takeC (.blk takeC .nil))) ⟨l.length - (k + 1), by omega, k + 1, _, rfl, by omega, rfl, hR, rfl⟩⟩
    · rw [lp_no p1] at hR
      rw [← hR]
      exact fin_g (A := rgM _ ++ [stB sn x, _]) (.grp takeG (.blk takeC (.blk takeC .nil))) ⟨.inr ⟨p1, rfl⟩, rfl⟩
  obtain rfl : k = l.length := by omega
  rw [Nat.sub_self, lp_0] at hR
  repeat' ((conv => whnf); first
      | refine ld1_lit ?_
      | refine ldN_lit ?_
      | refine nw (fun n => ?_)
      | refine bld ?_
      | refine st_lit rfl ?_
      | refine need (by first | rfl | omega) ?_
      | (refine wr (fun z hz => ?_); (try rw [Int.tdiv_eq_ediv_of_nonneg (by omega)] at hz); rw [w64 (by omega) (by omega)] at hz; subst hz)
      | (refine zv (fun z hz => ?_); (try rw [Int.tmod_eq_emod_of_nonneg (by omega)] at hz); subst hz)
      | (refine ifs (fun h => ?_) (fun h => ?_) <;> (try (exfalso; first | omega | with_reducible contradiction | with_reducible exact h rfl))))
  all_goals (conv => whnf)
  rw [← hR]
  exact fin_all ⟨.inl ⟨rfl, rfl⟩, rfl⟩
end Go.Proofs.YtohefdmfnllehaaGreat.Stg
/- A store that failed; a rig at which a step fails; a number raised on any rig. -/
namespace Go.Proofs.YtohefdmfnllehaaGreat.Flt
open Go Ev Sha Aes Orc Node Rec Chn Jrn Cau Sto Stg
open Rig (Fnc_takeR RigP Rg rgM readR writeR flushR setRegR z64 app_of tick comes write_ flush_ setreg_ mayE RigA rB)
open Tree (TreP TreA Tre treM getT putT GetR PutR)
set_option linter.unusedVariables false
set_option linter.unusedSimpArgs false
set_option maxRecDepth 100000
def RigP.wfault (r : RigP) (n : Int) : RigP := { r with fault := n }
theorem st_fault {P : Program} {M : List Blk} {T : TypeId} {f : Blk → List Blk} {k : List Blk → Prop} {a : RigA} {r : RigP} {b : Int} [z : Zip M a.rn (.row (Rig.rigC a r) T) f] (hk : k (f ⟨a.rn, .row (Rig.rigC a (RigP.wfault r b)) T⟩)) : StN P M a.rn 7 [.int .i64 b] k := st_row rfl (by simp [Rig.rigC]) hk
theorem right_ (n : Int) (h : 1 ≤ n ∧ n ≤ 1099511627776) : Fnc Tryz.prog 91 [.int .i64 n] [] (Ret (.bool true) []) := by
  refine fn_intro Tryz.func91 (by kernel_rfl) ?_
  repeat' ((conv => whnf); first
      | refine ld1_lit ?_
      | refine ldN_lit ?_
      | refine nw (fun n => ?_)
      | refine bld ?_
      | refine st_lit rfl ?_
      | refine need (by first | rfl | omega) ?_
      | (refine wr (fun z hz => ?_); (try rw [Int.tdiv_eq_ediv_of_nonneg (by omega)] at hz); rw [w64 (by omega) (by omega)] at hz; subst hz)
      | (refine zv (fun z hz => ?_); (try rw [Int.tmod_eq_emod_of_nonneg (by omega)] at hz); subst hz)
      | (refine ifs (fun h => ?_) (fun h => ?_) <;> (try (exfalso; first | omega | with_reducible contradiction | with_reducible exact h rfl))))
  all_goals (conv => whnf)
  all_goals exact fin_nil ⟨rfl, rfl⟩
theorem fault1 (a : RigA) (r : RigP) (n : Int) (h : 1 ≤ n ∧ n ≤ 1099511627776) : Fnc Tryz.prog 38 [pt a.rn, .int .i64 n] [rB a r] (Ret (.int .i64 0) [rB a (RigP.wfault r n)]) := by
  have hr := right_ n h
  refine fn_intro Tryz.func38 (by kernel_rfl) ?_
  repeat' ((conv => whnf); first
      | refine st_fault ?_
      | refine call_val hr ?_
      | refine ld1_lit ?_
      | refine ldN_lit ?_
      | refine nw (fun n => ?_)
      | refine bld ?_
      | refine st_lit rfl ?_
      | refine need (by first | rfl | omega) ?_
      | (refine wr (fun z hz => ?_); (try rw [Int.tdiv_eq_ediv_of_nonneg (by omega)] at hz); rw [w64 (by omega) (by omega)] at hz; subst hz)
      | (refine zv (fun z hz => ?_); (try rw [Int.tmod_eq_emod_of_nonneg (by omega)] at hz); subst hz)
      | (refine ifs (fun h => ?_) (fun h => ?_) <;> (try (exfalso; first | omega | with_reducible contradiction | with_reducible exact h rfl))))
  all_goals (conv => whnf)
  all_goals exact fin_all ⟨rfl, rfl⟩
theorem fault_ (a : RigA) (r : RigP) (n : Int) (h : 1 ≤ n ∧ n ≤ 1099511627776) : Fnc Tryz.prog 38 [pt a.rn, .int .i64 n] (rgM ⟨a, r⟩) (Ret (.int .i64 0) (rgM ⟨a, RigP.wfault r n⟩)) := by
  rw [Rig.rg_open', Rig.rg_open']
  exact Fnc_takeR (fault1 a r n h) (.blk takeC .nil)
/-! A store that failed. -/
def failX (f : Int) : Int := if f = 10 then 18 else f
theorem failed_any (sn : Nat) (x : StP) : Fnc Tryz.prog 34 [pt sn] [stB sn x] (Ret (.int .i64 (failX x.failed)) [stB sn x]) := by
  have hf := stC_f (x := x)
  by_cases h : x.failed = 10
  · rw [show failX x.failed = 18 by unfold failX; rw [if_pos h]]
    rw [h] at hf
    refine fn_intro Tryz.func34 (by kernel_rfl) ?_
    repeat' ((conv => whnf); first
        | refine ld1_row hf ?_
        | refine ld1_lit ?_
        | refine ldN_lit ?_
        | refine nw (fun n => ?_)
        | refine bld ?_
        | refine st_lit rfl ?_
        | refine need (by first | rfl | omega) ?_
        | (refine wr (fun z hz => ?_); (try rw [Int.tdiv_eq_ediv_of_nonneg (by omega)] at hz); rw [w64 (by omega) (by omega)] at hz; subst hz)
        | (refine zv (fun z hz => ?_); (try rw [Int.tmod_eq_emod_of_nonneg (by omega)] at hz); subst hz)
        | (refine ifs (fun h => ?_) (fun h => ?_) <;> (try (exfalso; first | omega | with_reducible contradiction | with_reducible exact h rfl))))
    all_goals (conv => whnf)
    all_goals exact fin_all ⟨rfl, rfl⟩
  · rw [show failX x.failed = x.failed by unfold failX; rw [if_neg h]]
    refine fn_intro Tryz.func34 (by kernel_rfl) ?_
    repeat' ((conv => whnf); first
        | refine ld1_row hf ?_
        | refine ld1_lit ?_
        | refine ldN_lit ?_
        | refine nw (fun n => ?_)
        | refine bld ?_
        | refine st_lit rfl ?_
        | refine need (by first | rfl | omega) ?_
        | (refine wr (fun z hz => ?_); (try rw [Int.tdiv_eq_ediv_of_nonneg (by omega)] at hz); rw [w64 (by omega) (by omega)] at hz; subst hz)
        | (refine zv (fun z hz => ?_); (try rw [Int.tmod_eq_emod_of_nonneg (by omega)] at hz); subst hz)
        | (refine ifs (fun h => ?_) (fun h => ?_) <;> (try (exfalso; first | omega | with_reducible contradiction | with_reducible exact h rfl))))
    all_goals (conv => whnf)
    all_goals exact fin_all ⟨rfl, rfl⟩
theorem failX_ne {f : Int} (h : f ≠ 0) : failX f ≠ 0 := by unfold failX; split <;> omega
theorem run_no (sn : Nat) (x : StP) (f : FuncId) (fs cs : Array Value) (h : x.failed ≠ 0) :
    Fnc Tryz.prog 92 [pt sn, .func (.func f) fs cs] [stB sn x] (Ret (.int .i64 (failX x.failed)) [stB sn x]) := by
  have h1 := failed_any sn x
  have h2 := failX_ne h
  generalize failX x.failed = e at *
  refine fn_intro Tryz.func92 (by kernel_rfl) ?_
  repeat' ((conv => whnf); first
      | refine call_gr h1 (.blk takeC .nil) ?_
      | refine ld1_lit ?_
      | refine ldN_lit ?_
      | refine nw (fun n => ?_)
      | refine bld ?_
      | refine st_lit rfl ?_
      | refine need (by first | rfl | omega) ?_
      | (refine wr (fun z hz => ?_); (try rw [Int.tdiv_eq_ediv_of_nonneg (by omega)] at hz); rw [w64 (by omega) (by omega)] at hz; subst hz)
      | (refine zv (fun z hz => ?_); (try rw [Int.tmod_eq_emod_of_nonneg (by omega)] at hz); subst hz)
      | (refine ifs (fun h => ?_) (fun h => ?_) <;> (try (exfalso; first | omega | with_reducible contradiction | with_reducible exact h rfl))))
  all_goals (conv => whnf)
  all_goals exact fin_all ⟨rfl, rfl⟩
theorem get_no (sn : Nat) (x : StP) (d l : Int) (h : x.failed ≠ 0) : Fnc Tryz.prog 42 [pt sn, .int .i64 d, .int .i64 l] [stB sn x] (Ret (.tuple #[.string ByteArray.empty, .bool false, .int .i64 (failX x.failed)]) [stB sn x]) := by
  have h1 := fun f fs cs => run_no sn x f fs cs h
  have h2 := failX_ne h
  generalize failX x.failed = e at *
  refine fn_intro Tryz.func42 (by kernel_rfl) ?_
  repeat' ((conv => whnf); first
      | refine call_gr (h1 _ _ _) (.blk takeC .nil) ?_
      | refine ld1_lit ?_
      | refine ldN_lit ?_
      | refine nw (fun n => ?_)
      | refine bld ?_
      | refine st_lit rfl ?_
      | refine need (by first | rfl | omega) ?_
      | (refine wr (fun z hz => ?_); (try rw [Int.tdiv_eq_ediv_of_nonneg (by omega)] at hz); rw [w64 (by omega) (by omega)] at hz; subst hz)
      | (refine zv (fun z hz => ?_); (try rw [Int.tmod_eq_emod_of_nonneg (by omega)] at hz); subst hz)
      | (refine ifs (fun h => ?_) (fun h => ?_) <;> (try (exfalso; first | omega | with_reducible contradiction | with_reducible exact h rfl))))
  all_goals (conv => whnf)
  all_goals exact fin_g (A := [stB sn x]) (.blk takeC .nil) ⟨rfl, rfl⟩
theorem put_no (sn : Nat) (x : StP) (d l : Int) (s : ByteArray) (h : x.failed ≠ 0) : Fnc Tryz.prog 43 [pt sn, .int .i64 d, .int .i64 l, .string s] [stB sn x] (Ret (.int .i64 (failX x.failed)) [stB sn x]) := by
  have h1 := fun f fs cs => run_no sn x f fs cs h
  generalize failX x.failed = e at *
  refine fn_intro Tryz.func43 (by kernel_rfl) ?_
  repeat' ((conv => whnf); first
      | refine call_gr (h1 _ _ _) (.blk takeC .nil) ?_
      | refine ld1_lit ?_
      | refine ldN_lit ?_
      | refine nw (fun n => ?_)
      | refine bld ?_
      | refine st_lit rfl ?_
      | refine need (by first | rfl | omega) ?_
      | (refine wr (fun z hz => ?_); (try rw [Int.tdiv_eq_ediv_of_nonneg (by omega)] at hz); rw [w64 (by omega) (by omega)] at hz; subst hz)
      | (refine zv (fun z hz => ?_); (try rw [Int.tmod_eq_emod_of_nonneg (by omega)] at hz); subst hz)
      | (refine ifs (fun h => ?_) (fun h => ?_) <;> (try (exfalso; first | omega | with_reducible contradiction | with_reducible exact h rfl))))
  all_goals (conv => whnf)
  all_goals exact fin_g (A := [stB sn x]) (.blk takeC .nil) ⟨rfl, rfl⟩
theorem commit_no (sn : Nat) (x : StP) (h : x.failed ≠ 0) : Fnc Tryz.prog 40 [pt sn] [stB sn x] (Ret (.int .i64 (failX x.failed)) [stB sn x]) := by
  have h1 := fun f fs cs => run_no sn x f fs cs h
  generalize failX x.failed = e at *
  refine fn_intro Tryz.func40 (by kernel_rfl) ?_
  repeat' ((conv => whnf); first
      | refine call_gr (h1 _ _ _) (.blk takeC .nil) ?_
      | refine ld1_lit ?_
      | refine ldN_lit ?_
      | refine nw (fun n => ?_)
      | refine bld ?_
      | refine st_lit rfl ?_
      | refine need (by first | rfl | omega) ?_
      | (refine wr (fun z hz => ?_); (try rw [Int.tdiv_eq_ediv_of_nonneg (by omega)] at hz); rw [w64 (by omega) (by omega)] at hz; subst hz)
      | (refine zv (fun z hz => ?_); (try rw [Int.tmod_eq_emod_of_nonneg (by omega)] at hz); subst hz)
      | (refine ifs (fun h => ?_) (fun h => ?_) <;> (try (exfalso; first | omega | with_reducible contradiction | with_reducible exact h rfl))))
  all_goals (conv => whnf)
  all_goals exact fin_g (A := [stB sn x]) (.blk takeC .nil) ⟨rfl, rfl⟩
/-! Raise, on any rig. -/
attribute [local irreducible] dgV D jC wrF rcC stC regC flF srF RgV.lay rgM setRegR setG
set_option maxHeartbeats 4000000 in
theorem raise1_g (a : RigA) (r : RigP) (sn c2 c3 : Nat) (x : StP) (iv : Int) (h : ivOk x.is iv) (hrn : x.rn = a.rn) (q : RigP × Int) (eq : q = setG r (x.is.to iv)) :
    Fnc Tryz.prog 155 (([] ++ []) ++ [pt c3, pt c2]) (stB sn x :: ([cIn c3 iv, cSt c2 sn] ++ rgM ⟨a, r⟩))
      (Cau.Ends fun oe M => ∃ y S, (oe = mo q.2 ∧ y = (if q.2 = 0 then x.up iv else x) ∧ S = [cIn c3 iv, cSt c2 sn] ++ rgM ⟨a, q.1⟩) ∧ M = stB sn y :: S) := by
  have hset := setg a r sn x (x.is.to iv) hrn
  rw [← eq] at hset
  have hset : Fnc Tryz.prog 135 [pt sn, .agg (regC (x.is.to iv)).toArray] (rgM ⟨a, r⟩ ++ [stB sn x])
      (fun e M => (q.2 = 0 ∧ e = .returned (.tuple #[]) ∧ M = rgM ⟨a, q.1⟩ ++ [stB sn { x with is := x.is.to iv }]) ∨ (q.2 ≠ 0 ∧ e = .panicked (pe q.2) ∧ M = rgM ⟨a, q.1⟩ ++ [stB sn x])) := by
    refine Fnc_mono hset ?_
    rintro e M ⟨⟨h1, h2⟩ | ⟨h1, h2⟩, h3⟩
    · rw [if_pos h1] at h3; exact .inl ⟨h1, h2, h3⟩
    · rw [if_neg h1] at h3; exact .inr ⟨h1, h2, h3⟩
  clear eq
  unfold ivOk at h
  refine fn_intro Tryz.func155 (by kernel_rfl) ?_
  repeat' ((conv => whnf); first
      | refine draw_tree 0 (.take 0 (.take 1 (.take 2 (.take 3 (.take 4 (.take 5 (.take 6 (.take 7 (.take 8 (.take 9 (.take 10 .nil))))))))))) [⟨c3, _⟩, ⟨c2, _⟩, ⟨sn, _⟩] rfl (by kernel_rfl) (kept_of (.cons takeC (.cons takeC (.cons takeC .nil))) ?_)
      | refine fld1 ?_
      | refine fld1_row stC_iv ?_
      | refine nw_row (cs' := regC rg0) rg0_e (fun n => ?_)
      | refine ldN_row (n := sn) _ stC_is (regC_len _) ?_
      | (refine need ?_ ?_; exact regC_len _)
      | refine force_of ?_
      | refine st_rgl rfl ?_
      | refine st_riv ?_
      | refine ldN_whole (regC_len _) ?_
      | (refine call_g hset (.grp takeG (.blk takeC .nil)) (fun e A' hq => ?_); obtain ⟨p1, p2, p0⟩ | ⟨p1, p2, p0⟩ := hq <;> subst p2 <;> subst p0)
      | refine st_ni ?_
      | refine ld1_lit ?_
      | refine ldN_lit ?_
      | refine nw (fun n => ?_)
      | refine bld ?_
      | refine st_lit rfl ?_
      | refine need (by first | rfl | omega) ?_
      | (refine wr (fun z hz => ?_); (try rw [Int.tdiv_eq_ediv_of_nonneg (by omega)] at hz); rw [w64 (by omega) (by omega)] at hz; subst hz)
      | (refine zv (fun z hz => ?_); (try rw [Int.tmod_eq_emod_of_nonneg (by omega)] at hz); subst hz)
      | (refine ifs (fun h => ?_) (fun h => ?_) <;> (try (exfalso; first | omega | with_reducible contradiction | with_reducible exact h rfl))))
  all_goals (conv => whnf)
  · exact fin_g (A := stB sn _ :: (⟨c3, _⟩ :: (⟨c2, _⟩ :: rgM ⟨a, _⟩))) (.blk takeC (.blk takeC (.blk takeC (.one takeG)))) ⟨_, ⟨x.up iv, _, ⟨mo_0 p1, by rw [if_pos p1], rfl⟩, rfl⟩, _, rfl⟩
  · exact fin_g (A := stB sn _ :: (⟨c3, _⟩ :: (⟨c2, _⟩ :: rgM ⟨a, _⟩))) (.blk takeC (.blk takeC (.blk takeC (.one takeG)))) ⟨_, ⟨x, _, ⟨mo_1 p1, by rw [if_neg p1], rfl⟩, rfl⟩, rfl⟩
structure RaR where
  r : RigP
  V : StoV
  e : Int
/-- The number's top raised, on any rig. -/
noncomputable def raiseG (r : RigP) (V : StoV) (iv : Int) : RaR :=
  open Classical in if ivOk V.is iv then
    (if (setG r (V.is.to iv)).2 = 0 then ⟨(setG r (V.is.to iv)).1, { V with is := V.is.to iv, next := V.next.to iv }, 0⟩ else ⟨(setG r (V.is.to iv)).1, V.fl (setG r (V.is.to iv)).2, (setG r (V.is.to iv)).2⟩)
  else ⟨r, V, 2⟩
set_option maxHeartbeats 4000000 in
theorem raiseg (a : RigA) (r : RigP) (A : StoA) (V : StoV) (iv : Int) (hrn : V.rn = a.rn) (hfl : V.failed = 0) :
    Fnc Tryz.prog 89 [pt A.sn, .int .i64 iv] (rgM ⟨a, r⟩ ++ [stB A.sn (Sto.c ⟨A, V⟩)])
      (Ret (.int .i64 (raiseG r V iv).e) (rgM ⟨a, (raiseG r V iv).r⟩ ++ [stB A.sn (Sto.c ⟨A, (raiseG r V iv).V⟩)])) := by
  by_cases h : ivOk V.is iv
  · obtain ⟨q, eq⟩ : ∃ q, q = setG r (V.is.to iv) := ⟨_, rfl⟩
    have e : raiseG r V iv = (if q.2 = 0 then ⟨q.1, { V with is := V.is.to iv, next := V.next.to iv }, 0⟩ else ⟨q.1, V.fl q.2, q.2⟩) := by unfold raiseG; rw [if_pos h, eq]
    have hrun := fun c2 c3 => run_ A.sn (Sto.c ⟨A, V⟩) _ _ _ _ hfl (raise1_g a r A.sn c2 c3 (Sto.c ⟨A, V⟩) iv h hrn q eq)
    simp only [List.cons_append, List.nil_append] at hrun
    rw [e]
    by_cases hz : q.2 = 0
    · simp only [if_pos hz] at hrun ⊢
      rw [show mo q.2 = none from (mo_0 hz).symm] at hrun
      refine fn_intro Tryz.func89 (by kernel_rfl) ?_
      repeat' ((conv => whnf); first
          | (refine call_g (hrun _ _) (.blk takeC (.blk takeC (.blk takeC (.one takeG)))) (fun e A' hq => ?_); obtain ⟨oe, y, S, ⟨q1, q2, q3⟩, q6, q7⟩ := hq; subst q1; subst q2; subst q3; subst q6; subst q7)
          | refine ld1_lit ?_
          | refine ldN_lit ?_
          | refine nw (fun n => ?_)
          | refine bld ?_
          | refine st_lit rfl ?_
          | refine need (by first | rfl | omega) ?_
          | (refine wr (fun z hz => ?_); (try rw [Int.tdiv_eq_ediv_of_nonneg (by omega)] at hz); rw [w64 (by omega) (by omega)] at hz; subst hz)
          | (refine zv (fun z hz => ?_); (try rw [Int.tmod_eq_emod_of_nonneg (by omega)] at hz); subst hz)
          | (refine ifs (fun h => ?_) (fun h => ?_) <;> (try (exfalso; first | omega | with_reducible contradiction | with_reducible exact h rfl))))
      all_goals (conv => whnf)
      all_goals exact fin_g (A := rgM ⟨a, _⟩ ++ [stB A.sn _]) (.grp takeG (.blk takeC .nil)) ⟨rfl, by rw [show V.failed = failE 0 V.failed from rfl]; rfl⟩
    · simp only [if_neg hz] at hrun ⊢
      refine fn_intro Tryz.func89 (by kernel_rfl) ?_
      repeat' ((conv => whnf); first
          | (refine call_g (hrun _ _) (.blk takeC (.blk takeC (.blk takeC (.one takeG)))) (fun e A' hq => ?_); obtain ⟨oe, y, S, ⟨q1, q2, q3⟩, q6, q7⟩ := hq; subst q1; subst q2; subst q3; subst q6; subst q7; rw [mo_get])
          | refine ld1_lit ?_
          | refine ldN_lit ?_
          | refine nw (fun n => ?_)
          | refine bld ?_
          | refine st_lit rfl ?_
          | refine need (by first | rfl | omega) ?_
          | (refine wr (fun z hz => ?_); (try rw [Int.tdiv_eq_ediv_of_nonneg (by omega)] at hz); rw [w64 (by omega) (by omega)] at hz; subst hz)
          | (refine zv (fun z hz => ?_); (try rw [Int.tmod_eq_emod_of_nonneg (by omega)] at hz); subst hz)
          | (refine ifs (fun h => ?_) (fun h => ?_) <;> (try (exfalso; first | omega | with_reducible contradiction | with_reducible exact h rfl))))
      all_goals (conv => whnf)
      all_goals exact fin_g (A := rgM ⟨a, _⟩ ++ [stB A.sn _]) (.grp takeG (.blk takeC .nil)) ⟨rfl, rfl⟩
  · have e : raiseG r V iv = ⟨r, V, 2⟩ := by unfold raiseG; rw [if_neg h]
    have hrun := fun c2 c3 => run_ A.sn (Sto.c ⟨A, V⟩) _ _ _ _ hfl (raise1_no ⟨a, r⟩ A.sn c2 c3 (Sto.c ⟨A, V⟩) iv h)
    simp only [List.cons_append, List.nil_append] at hrun
    rw [e]
    refine fn_intro Tryz.func89 (by kernel_rfl) ?_
    repeat' ((conv => whnf); first
        | (refine call_g (hrun _ _) (.blk takeC (.blk takeC (.blk takeC (.one takeG)))) (fun e A' hq => ?_); obtain ⟨oe, y, S, ⟨q1, q2, q3⟩, q6, q7⟩ := hq; subst q1; subst q2; subst q3; subst q6; subst q7)
        | refine ld1_lit ?_
        | refine ldN_lit ?_
        | refine nw (fun n => ?_)
        | refine bld ?_
        | refine st_lit rfl ?_
        | refine need (by first | rfl | omega) ?_
        | (refine wr (fun z hz => ?_); (try rw [Int.tdiv_eq_ediv_of_nonneg (by omega)] at hz); rw [w64 (by omega) (by omega)] at hz; subst hz)
        | (refine zv (fun z hz => ?_); (try rw [Int.tmod_eq_emod_of_nonneg (by omega)] at hz); subst hz)
        | (refine ifs (fun h => ?_) (fun h => ?_) <;> (try (exfalso; first | omega | with_reducible contradiction | with_reducible exact h rfl))))
    all_goals (conv => whnf)
    all_goals exact fin_g (A := rgM ⟨a, _⟩ ++ [stB A.sn _]) (.grp takeG (.blk takeC .nil)) ⟨rfl, rfl⟩
end Go.Proofs.YtohefdmfnllehaaGreat.Flt
