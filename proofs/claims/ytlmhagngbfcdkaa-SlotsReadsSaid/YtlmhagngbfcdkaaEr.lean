/- Regions of open order that write: walked in one order that is as good as any. -/
import Derived.Test.YtlmhagngbfcdkaaEq
import Derived.OrdersHeld
namespace Go.Proofs.Ytlmhagngbfcdkaa.Ev
open Go
set_option linter.unusedVariables false
set_option linter.unusedSimpArgs false

/-- What is to be read, RO, is there still. -/
structure Kept (RO M : List Blk) (k : Prop) : Prop where
  out : (∀ A w0 w, St A w0 w M → Mem w RO) ∧ k
theorem kept_nil {M : List Blk} {k : Prop} (h : k) : Kept [] M k := ⟨fun A w0 w st => ⟨fun b hb => (by cases hb), List.Pairwise.nil⟩, h⟩
theorem seen1 {M : List Blk} {n : Nat} {o : BO} [hl : Look M n o] : ∀ A w0 w, St A w0 w M → Mem w [⟨n, o⟩] := fun A w0 w st => by
  refine ⟨fun b hb => ?_, List.pairwise_singleton _ _⟩
  simp only [List.mem_singleton] at hb
  subst hb
  exact st.has _ hl.mem
theorem kept1 {M : List Blk} {n : Nat} {o : BO} {k : Prop} [hl : Look M n o] (h : k) : Kept [⟨n, o⟩] M k := ⟨seen1, h⟩

structure FLd1 (RO : List Blk) (b off : Nat) (k : Value → Prop) : Prop where
  out : ∃ v, (∀ w, Mem w RO → w.cell? ⟨b, off, none⟩ = some v) ∧ k v
structure FLdN (RO : List Blk) (b off n : Nat) (k : List Value → Prop) : Prop where
  out : ∃ vs : List Value, vs.length = n ∧ (∀ w, Mem w RO → ∀ j v, vs[j]? = some v → w.cell? ⟨b, off + j, none⟩ = some v) ∧ k vs
structure FRuns (P : Program) (RO : List Blk) (s : Sem Next) (M : List Blk) (k : Kv) : Prop where
  out : ∃ v, (∀ w, Mem w RO → s.run P w = .ok (.value v) w) ∧ k v M
def fl (P : Program) (RO : List Blk) : Md := { ld1 := fun _ => FLd1 RO, ldN := fun _ => FLdN RO, stN := fun _ _ _ _ _ => False, nw := fun _ _ _ _ => False, cl := fun _ _ _ _ _ => False, runs := fun s M k _ => FRuns P RO s M k, pan := fun _ => False }
theorem fl_sound (P : Program) (RO : List Blk) : (fl P RO).Sound P where
  val {s M k pan} v h hk := by
    show FRuns P RO s M k
    exact ⟨v, fun w _ => h w, hk⟩
  congr {s s' M k pan} h hr := by
    show FRuns P RO s M k
    have hr : FRuns P RO s' M k := hr
    obtain ⟨v, h1, h2⟩ := hr.out
    exact ⟨v, fun w st => by rw [h w]; exact h1 w st, h2⟩
  ld1 {s M b off k pan} h hs := by
    show FRuns P RO s M k
    have h : FLd1 RO b off (fun v => k v M) := h
    obtain ⟨v, h1, h2⟩ := h.out
    exact ⟨v, fun w st => hs v w (h1 w st), h2⟩
  ldN {s M b off n k pan} h hs := by
    show FRuns P RO s M k
    have h : FLdN RO b off n (fun vs => k (.agg vs.toArray) M) := h
    obtain ⟨vs, h0, h1, h2⟩ := h.out
    exact ⟨.agg vs.toArray, fun w st => hs vs w h0 (h1 w st), h2⟩
  stN h hs := h.elim
  nw _ h hs := h.elim
  cl h hs := h.elim
  pan h hs := h.elim

noncomputable def fw (P : Program) (ops : List Oper) (RO : List Blk) (sch : List (Nat × Bool)) : List Value → List Blk → Ks → Prop :=
  List.rec (fun fr M K => K .normal fr M) (fun s _ ih fr M K => match s with
    | (i, tk) => match ops[i]? with
      | none => False
      | some o => gdK ops fr o.guard (match tk with
        | true => opK (fl P RO) P fr M o (fun v M' => putK o.dst fr v fun fr' => ih fr' M' K) (fun _ _ => False)
        | false => opK (std P) P fr M o (fun v M' => Kept RO M' (putK o.dst fr v fun fr' => ih fr' M' K)) (fun _ _ => False)) (putK o.dst fr undef fun fr' => ih fr' M K)) sch
theorem fw_cons {P : Program} {ops : List Oper} {RO : List Blk} {i : Nat} {tk : Bool} {sch : List (Nat × Bool)} {fr : List Value} {M : List Blk} {K : Ks} : fw P ops RO ((i, tk) :: sch) fr M K = (match ops[i]? with
      | none => False
      | some o => gdK ops fr o.guard (match tk with
        | true => opK (fl P RO) P fr M o (fun v M' => putK o.dst fr v fun fr' => fw P ops RO sch fr' M' K) (fun _ _ => False)
        | false => opK (std P) P fr M o (fun v M' => Kept RO M' (putK o.dst fr v fun fr' => fw P ops RO sch fr' M' K)) (fun _ _ => False)) (putK o.dst fr undef fun fr' => fw P ops RO sch fr' M K)) := rfl
/-- The order is one of those that may be drawn, and each of its steps is the only one or may be taken first. -/
def schB (ops : Array Oper) : List (Nat × Bool) → Array Bool → Bool
  | [], listed => (Region.ready .any ops listed).isEmpty
  | (i, tk) :: sch, listed => (match tk with
      | true => Region.free .any ops listed i && (Region.ready .any ops listed).contains i
      | false => decide (Region.ready .any ops listed = [i])) && schB ops sch (listed.setIfInBounds i true)
theorem fw_sound {P : Program} {ops : List Oper} {RO : List Blk} {K : Ks} {A : List Blk} {w0 : World} {ds : List Deferred} (hs : Region.noSelect ops.toArray = true) : ∀ (sch : List (Nat × Bool)) (listed : Array Bool) (fr : List Value) (M : List Blk), schB ops.toArray sch listed = true → fw P ops RO sch fr M K →
    ∀ w, St A w0 w M → Mem w RO → wpAnyH P .any ops.toArray (fun e a w => e = .normal ∧ ∃ fr' M', a = ⟨fr'.toArray, ds⟩ ∧ St A w0 w M' ∧ K .normal fr' M') (fun w => Mem w RO) sch.length listed ⟨fr.toArray, ds⟩ w
  | [], listed, fr, M, hb, h, w, st, hro => wpAnyH_done (by simpa [schB] using hb) ⟨rfl, fr, M, rfl, st, h⟩ _
  | (i, tk) :: sch, listed, fr, M, hb, h, w, st, hro => by
    rw [fw_cons] at h
    unfold schB at hb
    simp only [Bool.and_eq_true] at hb
    obtain ⟨hb1, hb2⟩ := hb
    cases ho : ops[i]? with
    | none => rw [ho] at h; exact h.elim
    | some o =>
      rw [ho] at h
      simp only at h
      have ho' : ops.toArray[i]? = some o := by simpa using ho
      cases tk with
      | true =>
        simp only [Bool.and_eq_true] at hb1
        have take : ∀ v, YieldsIf P ops.toArray (fun w => Mem w RO) o v ⟨fr.toArray, ds⟩ → putK o.dst fr v (fun fr' => fw P ops RO sch fr' M K) →
            wpAnyH P .any ops.toArray (fun e a w => e = .normal ∧ ∃ fr' M', a = ⟨fr'.toArray, ds⟩ ∧ St A w0 w M' ∧ K .normal fr' M') (fun w => Mem w RO) (sch.length + 1) listed ⟨fr.toArray, ds⟩ w := by
          intro v hy hk
          refine wpAnyH_take ho' hs hb1.1 hb1.2 (fun c a w hq => (by cases hq.1)) hy hro ?_
          obtain ⟨fr', e, hk'⟩ := putK_out (ds := ds) hk
          rw [e]
          exact fw_sound hs sch _ fr' M hb2 hk' w st hro
        rcases gdK_out h with ⟨hw, h⟩ | ⟨hw, h⟩
        · have hr : FRuns P RO (execOp (Act.eval ⟨fr.toArray, []⟩) o) M _ := opK_sound (fl_sound P RO) h
          rw [← eval_nil' fr ds] at hr
          obtain ⟨v, h1, h2⟩ := hr.out
          exact take v (.inl ⟨hw, h1⟩) h2
        · exact take undef (.inr ⟨by simpa using hw, rfl⟩) h
      | false =>
        simp only [decide_eq_true_eq] at hb1
        refine wpAnyH_all hb1 (by simp) fun j hj => ?_
        simp only [List.mem_singleton] at hj
        subst hj
        unfold wpOp
        rw [ho']
        simp only
        rcases gdK_out h with ⟨hw, h⟩ | ⟨hw, h⟩
        · rw [if_pos hw]
          have hr : Runs P (execOp (Act.eval ⟨fr.toArray, []⟩) o) M _ _ := opK_sound (std_sound P) h
          rw [← eval_nil' fr ds] at hr
          refine .inl (wp_of_runs hr st (fun v w' M' st' hk => ?_) fun ch w' M' st' hk => hk.elim)
          obtain ⟨h1, h2⟩ := hk.out
          obtain ⟨fr', e, hk'⟩ := putK_out (ds := ds) h2
          rw [e]
          exact ⟨h1 _ _ _ st', fw_sound hs sch _ fr' M' hb2 hk' w' st' (h1 _ _ _ st')⟩
        · rw [if_neg (by simp [hw])]
          obtain ⟨fr', e, hk'⟩ := putK_out (ds := ds) h
          rw [e]
          exact ⟨hro, fw_sound hs sch _ fr' M hb2 hk' w st hro⟩
def schOk (ops : List Oper) (sch : List (Nat × Bool)) : Bool := Region.noSelect ops.toArray && (decide (sch.length = ops.length) && schB ops.toArray sch (Array.replicate ops.length false))
/-- A region of open order, in the order 'sch' (true: the operation needs nothing of memory but RO, and writes nothing; false: no other one may come up). -/
theorem draw_any (id : Nat) (sch : List (Nat × Bool)) (RO : List Blk) {P : Program} {ops : List Oper} {fr : List Value} {M : List Blk} {K : Ks} (hm : P.follows .mixedOrders = true) (hB : schOk ops sch = true)
    (h : Kept RO M (fw P ops RO sch fr M K)) : CodeW P (.region id ops.toArray true) fr M K := by
  unfold schOk at hB
  simp only [Bool.and_eq_true, decide_eq_true_eq] at hB
  obtain ⟨hs, hl, hb⟩ := hB
  refine ⟨fun A w0 w ds st => ?_⟩
  obtain ⟨h1, h2⟩ := h.out
  have st' := st.drew (w.drawn + 1)
  have key := wp_region_held (Q := fun e a w => e = .normal ∧ ∃ fr' M', a = ⟨fr'.toArray, ds⟩ ∧ St A w0 w M' ∧ K .normal fr' M') (id := id) (a := ⟨fr.toArray, ds⟩) (w := w) hm (by
    have := fw_sound (ds := ds) hs sch _ fr M hb h2 _ st' (h1 _ _ _ st')
    rw [hl] at this
    exact this)
  refine wp_mono key fun e a' w' hq => ?_
  obtain ⟨rfl, fr', M', rfl, s1, hk⟩ := hq
  exact ⟨fr', M', rfl, s1, hk⟩
theorem fld1 {n off : Nat} {cs : List Value} {t : TypeId} {k : Value → Prop} {RO : List Blk} [h : Look RO n (.cells cs t)] (hk : getOK cs off k) : FLd1 RO n off k := by
  obtain ⟨v, hv, hk⟩ := getOK_out hk
  refine ⟨v, fun w hm => ?_, hk⟩
  have := hm.1 _ h.mem
  simp only [Blk.holds] at this
  simp [World.cell?, this, hv]
theorem fld1_row {n off : Nat} {cs : List Value} {t : TypeId} {k : Value → Prop} {RO : List Blk} {v : Value} [h : Look RO n (.row cs t)] (hv : cs[off]? = some v) (hk : k v) : FLd1 RO n off k := by
  refine ⟨v, fun w hm => ?_, hk⟩
  have := hm.1 _ h.mem
  simp only [Blk.holds] at this
  simp [World.cell?, this, hv]
end Go.Proofs.Ytlmhagngbfcdkaa.Ev
