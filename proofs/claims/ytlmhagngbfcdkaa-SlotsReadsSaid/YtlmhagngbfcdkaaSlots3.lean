/- Tables of slots: bytes; what must come at any rate; the law of nil tables. -/
import Derived.Test.YtlmhagngbfcdkaaSlots2
namespace Go.Proofs.Ytlmhagngbfcdkaa.Slots
open Go Ev Be
set_option linter.unusedVariables false
set_option linter.unusedSimpArgs false
set_option maxRecDepth 100000
instance (priority := low) ZipO_nil {M : List Blk} {e : TypeId} {xs : List Value} : ZipO M .nil e xs (fun l => l ++ M) := ⟨⟨[], M, rfl, fun _ => rfl⟩⟩
instance Own_look {g cap : Nat} {junk xs : List Value} {e : TypeId} : Look ((Own.at_ g cap junk).blk e xs) g (.row (xs ++ junk) e) := ⟨List.mem_cons_self⟩
theorem fldN {n off m : Nat} {cs : List Value} {t : TypeId} {k : List Value → Prop} {RO : List Blk} [h : Look RO n (.cells cs t)] (hk : dropK cs off fun l => takeK l m k) : FLdN RO n off m k := by
  obtain ⟨h1, h2⟩ := dropK_out hk
  obtain ⟨h3, h4⟩ := takeK_out h1
  refine ⟨_, by rw [List.length_take]; omega, fun w hm j v hj => ?_, h3⟩
  have := hm.1 _ h.mem
  simp only [Blk.holds] at this
  rw [List.getElem?_take] at hj
  split at hj
  · rw [List.getElem?_drop] at hj
    simp [World.cell?, this, hj]
  · cases hj
theorem call_rowro {P : Program} {M : List Blk} {k : Kv} {pan : Kp} {f : FuncId} {args : List Value} {n : Nat} {cs xs : List Value} {t : TypeId} {N' : List Blk} {v : Value} (h : Fnc P f args [⟨n, .ro 0 xs⟩] (Ret v N')) [hl : Look M n (.row cs t)] (hx : ∃ junk, cs = xs ++ junk) (hk : k v M) : Cl P f args M k pan := by
  obtain ⟨junk, rfl⟩ := hx
  refine call_ro h (by simp [Blk.ro]) (fun A w0 w st => ⟨?_, List.pairwise_singleton _ _⟩) hk
  intro b hb
  simp only [List.mem_singleton] at hb
  subst hb
  have := st.has _ hl.mem
  refine ⟨this.lt, fun j v hj => ?_⟩
  simp only [Blk.holds] at this
  have h2 : (xs ++ junk)[j]? = some v := by rw [List.getElem?_append_left (List.getElem?_eq_some_iff.1 hj).1]; exact hj
  simpa [World.cell?, this] using h2
theorem fin_look (n : Nat) {M : List Blk} {o : BO} {Q : List Blk → Prop} [h : Look M n o] (hq : Q [⟨n, o⟩]) : Ev.Fin M Q := by
  obtain ⟨s, t, e⟩ := List.append_of_mem h.mem
  exact ⟨⟨[⟨n, o⟩], s ++ t, by rw [e]; exact List.perm_middle, hq⟩⟩
abbrev L32 : List Int := [6, 34, 0, 0, 0, 0, 0, 0, 0, 0, 0, 0, 0, 0, 0, 0, 0, 0, 0, 0, 0, 0, 0, 0, 0, 0, 0, 0, 0, 0, 0, 0]
def sB : ByteArray := str ([6, 34] ++ List.replicate 46 0)
theorem rowL : rowE 1 L32 = 0 ∧ rowS 1 L32 = str ([6, 34] ++ List.replicate 30 0) := ⟨by decide +kernel, by decide +kernel⟩
theorem padL : padE (str ([6, 34] ++ List.replicate 30 0)) 48 = 0 ∧ padS (str ([6, 34] ++ List.replicate 30 0)) 48 = sB := ⟨by decide +kernel, by decide +kernel⟩
theorem fullL : full { data := #[6, 34] } 48 = sB := by decide +kernel
theorem one4 {a b c d : Value} (h1 : a.oneCell' = true) (h2 : b.oneCell' = true) (h3 : c.oneCell' = true) (h4 : d.oneCell' = true) : ∀ u ∈ [a, b, c, d], u.oneCell' = true := by
  intro u hu
  simp only [List.mem_cons, List.not_mem_nil, or_false] at hu
  rcases hu with rfl | rfl | rfl | rfl <;> assumption
attribute [local irreducible] convert Builtin.copy_ Builtin.append_ Instr.makeSlice rowE rowS padE padS full sB
set_option maxHeartbeats 4000000 in
theorem bytes2 (r : Nat) : Fnc Try.prog 19 [pt r] [tb r tab2] (Ret (.string sB) [tb r tab2]) := by
  have rl := rowL
  have pl := padL
  refine fn_intro Try.func19 (by kernel_rfl) ?_
  repeat' ((conv => whnf); first
      | refine loop_n 9 ?_
      | refine draw_any 7 [(0, true), (1, true), (6, true), (2, true), (3, true), (4, true), (7, true), (5, false), (8, false), (9, false), (10, true)] _ rfl (by kernel_rfl) (kept1 (n := n) ?_)
      | refine kept1 ?_
      | refine fld1 ?_
      | refine fldN ?_
      | refine call_val bitsF ?_
      | refine call_val bitsA ?_
      | refine app_at (S := .nil) (n := 0) (e := 3) (xs := []) (news := [_, _, _, _]) rfl rfl rfl rfl rfl ⟨rfl, rfl⟩ rfl (one4 rfl rfl rfl rfl) (by decide) (by decide) (Ev.cells_from rfl) (fun S hS => ?_)
      | refine app_at (S := S) (e := 3) (news := [_, _, _, _]) rfl rfl rfl rfl rfl hS rfl (one4 rfl rfl rfl rfl) (by decide) (by decide) (Ev.cells_from rfl) (fun S hS => ?_)
      | (refine nv (fun z hz => ?_); (try simp at hz); replace hz := hz.symm; subst hz)
      | refine ld1_lit ?_
      | refine ldN_lit ?_
      | refine nw (fun n => ?_)
      | refine st_lit rfl ?_
      | refine need (by first | rfl | omega) ?_
      | (refine wr (fun z hz => ?_); (try rw [Int.tdiv_eq_ediv_of_nonneg (by omega)] at hz); rw [w64 (by omega) (by omega)] at hz; subst hz)
      | (refine zv (fun z hz => ?_); (try rw [Int.tmod_eq_emod_of_nonneg (by omega)] at hz); subst hz)
      | (refine ifs (fun h => ?_) (fun h => ?_) <;> (try (exfalso; first | omega | with_reducible contradiction | with_reducible exact h rfl))))
  (conv => whnf)
  rcases S with _ | ⟨g, cap, junk⟩
  · exfalso
    have := hS.2
    simp at this
  · refine call_rowro (row 1 L32 (Sl.at_ g 0 cap) trivial (by simp)) ⟨junk, rfl⟩ ?_
    rw [rl.1, rl.2]
    repeat' ((conv => whnf); first
        | (refine call_val (pad _ 48 (by rw [Ev.str_size]; simp)) ?_; rw [pl.1, pl.2])
        | exact fin_look r ⟨rfl, rfl⟩
        | refine ld1_lit ?_
        | refine ldN_lit ?_
        | refine nw (fun n => ?_)
        | refine st_lit rfl ?_
        | refine need (by first | rfl | omega) ?_
        | (refine wr (fun z hz => ?_); (try rw [Int.tdiv_eq_ediv_of_nonneg (by omega)] at hz); rw [w64 (by omega) (by omega)] at hz; subst hz)
        | (refine zv (fun z hz => ?_); (try rw [Int.tmod_eq_emod_of_nonneg (by omega)] at hz); subst hz)
        | (refine ifs (fun h => ?_) (fun h => ?_) <;> (try (exfalso; first | omega | with_reducible contradiction | with_reducible exact h rfl))))
theorem full2 : Fnc Try.prog 26 [.string { data := #[6, 34] }, .int .i64 48] [] (Ret (.string sB) []) := by
  have := full01 { data := #[6, 34] } 48 (by omega) (by decide)
  rwa [fullL] at this
theorem awake : Fnc Try.prog 9 [] [] (Ret (.bool true) []) := by
  refine fn_intro Try.func9 (by kernel_rfl) ?_
  repeat' ((conv => whnf); first
      | (refine call_fn new2 .nil (fun e A' hq => ?_); obtain ⟨r, h1, h2⟩ := hq; subst h1; subst h2)
      | refine call_same (take0 r) ?_
      | refine call_same (mark1 r) ?_
      | refine call_same (find2 r) ?_
      | refine call_same (bytes2 r) ?_
      | refine call_same (dirty2 r) ?_
      | refine call_same (len2 r) ?_
      | refine call_ret (take0 r) (.cons .here .nil) ?_
      | refine call_ret (mark1 r) (.cons .here .nil) ?_
      | refine call_val full2 ?_
      | exact fin_nil ⟨ret_bool rfl, rfl⟩
      | refine ld1_lit ?_
      | refine ldN_lit ?_
      | refine nw (fun n => ?_)
      | refine st_lit rfl ?_
      | refine need (by first | rfl | omega) ?_
      | (refine wr (fun z hz => ?_); (try rw [Int.tdiv_eq_ediv_of_nonneg (by omega)] at hz); rw [w64 (by omega) (by omega)] at hz; subst hz)
      | (refine zv (fun z hz => ?_); (try rw [Int.tmod_eq_emod_of_nonneg (by omega)] at hz); subst hz)
      | (refine ifs (fun h => ?_) (fun h => ?_) <;> (try (exfalso; first | omega | with_reducible contradiction | with_reducible exact h rfl)))
      | refine fin_nil ⟨?_, rfl⟩)
set_option maxHeartbeats 2000000 in
theorem slotsNone (k g s p : Int) (v d : Bool) : Fnc Try.prog 5 [.agg #[.int .i64 k, .int .i64 g, .int .i64 s, .int .i64 p, .bool v, .bool d]] [] (Ret (.bool true) []) := by
  refine fn_intro Try.func5 (by kernel_rfl) ?_
  repeat' ((conv => whnf); first
      | refine call_val awake ?_
      | refine call_val (take_nil _) ?_
      | refine call_val (find_nil _) ?_
      | refine call_val (at_nil _) ?_
      | refine call_val (free_nil _) ?_
      | refine call_val (mark_nil _ _ _ _) ?_
      | refine call_val (raise_nil _ _) ?_
      | refine call_val bytes_nil ?_
      | refine call_val dirty_nil ?_
      | refine call_val len_nil ?_
      | refine call_val copy_nil ?_
      | (refine agg_eql kSl (by decide) rfl rfl rfl rfl (by kernel_rfl) fSlZ fSlZ ?_; refine ift rfl ?_)
      | exact fin_nil ⟨ret_bool rfl, rfl⟩
      | refine ld1_lit ?_
      | refine ldN_lit ?_
      | refine nw (fun n => ?_)
      | refine st_lit rfl ?_
      | refine need (by first | rfl | omega) ?_
      | (refine wr (fun z hz => ?_); (try rw [Int.tdiv_eq_ediv_of_nonneg (by omega)] at hz); rw [w64 (by omega) (by omega)] at hz; subst hz)
      | (refine zv (fun z hz => ?_); (try rw [Int.tmod_eq_emod_of_nonneg (by omega)] at hz); subst hz)
      | (refine ifs (fun h => ?_) (fun h => ?_) <;> (try (exfalso; first | omega | with_reducible contradiction | with_reducible exact h rfl)))
      | refine fin_nil ⟨?_, rfl⟩)
end Go.Proofs.Ytlmhagngbfcdkaa.Slots
