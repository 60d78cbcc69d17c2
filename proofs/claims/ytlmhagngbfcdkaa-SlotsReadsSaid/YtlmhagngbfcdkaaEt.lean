/- Loops of few rounds walked round by round; regions in which two operations may come in either order; copy; conversions in regions of open order. -/
import Derived.Test.YtlmhagngbfcdkaaEr
import Derived.LoopN
namespace Go.Proofs.Ytlmhagngbfcdkaa.Ev
open Go
set_option linter.unusedVariables false
set_option linter.unusedSimpArgs false

/-- At most n rounds, one after another. -/
noncomputable def lw (P : Program) (c : Code) (n : Nat) : List Value → List Blk → Ks → Prop :=
  Nat.rec (fun _ _ _ => False) (fun _ ih fr M K => cw P c fr M fun e fr' M' => match e with
    | .normal => ih fr' M' K
    | e => K e fr' M') n
theorem lw_succ {P : Program} {c : Code} {n : Nat} {fr : List Value} {M : List Blk} {K : Ks} : lw P c (n + 1) fr M K = cw P c fr M fun e fr' M' => match e with
    | .normal => lw P c n fr' M' K
    | e => K e fr' M' := rfl
theorem lw_sound {P : Program} {c : Code} {K : Ks} {A : List Blk} {w0 : World} {ds : List Deferred} : ∀ (n : Nat) (fr : List Value) (M : List Blk), lw P c n fr M K → ∀ w, St A w0 w M → Code.rounds P c (QQ A w0 ds K) n ⟨fr.toArray, ds⟩ w
  | 0, fr, M, h, w, st => h.elim
  | n + 1, fr, M, h, w, st => by
    rw [lw_succ] at h
    rw [rounds_succ]
    refine wp_mono (cw_sound c fr M _ h A w0 w ds st) fun e a' w' hq => ?_
    obtain ⟨fr', M', rfl, st', hk⟩ := hq
    cases e with
    | normal => exact lw_sound n fr' M' hk w' st'
    | _ => exact ⟨fr', M', rfl, st', hk⟩
theorem loop_n (n : Nat) {P : Program} {c : Code} {fr : List Value} {M : List Blk} {K : Ks} (h : lw P c n fr M K) : CodeW P (.loop c) fr M K :=
  ⟨fun A w0 w ds st => wp_loop_rounds n (lw_sound n fr M h w st)⟩

/-- copy(a[i:j], s), s a text no longer than it. -/
theorem copy_str {P : Program} {M : List Blk} {k : Kv} {pan : Kp} {dT sT ty e : TypeId} {b o dl dc n : Nat} {s : ByteArray} {i : TypeInfo} (hu : P.underlying dT = some (.slice e)) (hi : P.info? e = some i) (hs : i.size = 1) (hn : s.size = n) (hle : n ≤ dl)
    (h : StN P M b o (s.data.toList.map fun x => Value.int .u8 (x.toNat : Int)) (fun M' => k (.int .i64 n) M')) : Runs P (VS (Builtin.copy_ #[dT, sT] ty #[.slice (some ⟨b, o, none⟩) dl dc, .string s])) M k pan := by
  refine ⟨fun A w0 w st => ?_⟩
  obtain ⟨w', M', hr, st', hk⟩ := h.out A w0 w st
  have hmin : Nat.min s.size dl = s.size := Nat.min_eq_left (by omega)
  have hl : (s.data.toList.map fun x => Value.int .u8 (x.toNat : Int)).length = s.size := by rw [List.length_map]; rfl
  have hrun : (Builtin.copy_ #[dT, sT] ty #[.slice (some ⟨b, o, none⟩) dl dc, .string s]).run P w = .ok (goInt n) w' := by
    simp [Builtin.copy_, run_underlying hu, Builtin.lenOf, Builtin.firstCells, Go.sizeOf, typeInfo, hi, hs, hmin]
    rw [List.take_of_length_le (by rw [hl]; exact Nat.le_refl _), hr, hn]
    rfl
  simp only [VS, Sem.run_bind, hrun, Result.andThen_ok, Sem.run_pure]
  exact ⟨M', st', hk⟩

/-- string(b) in a region of open order. -/
theorem conv_run {P : Program} {src dst e : TypeId} {n off len cap : Nat} {l : List UInt8} {w : World} (hs : P.underlying src = some (.slice e)) (he : P.underlying e = some (.int .u8)) (hd : P.underlying dst = some .string) (hlen : len = l.length)
    (hc : ∀ j (hj : j < l.length), w.cell? ⟨n, off + j, none⟩ = some (.int .u8 (l[j].toNat : Int))) : (VS (convert src dst (.slice (some ⟨n, off, none⟩) len cap))).run P w = .ok (.value (.string (str l))) w := by
  have hr := run_convert_bytes_back (P := P) w src dst e ⟨n, off, none⟩ cap l hs he hd (fun j hj => by rw [add_none]; exact hc j hj)
  simp only [VS, Sem.run_bind, hlen, hr, Result.andThen_ok, Sem.run_pure]
  rfl
theorem lit_cells {w : World} {n off : Nat} {cs : List Value} {t : TypeId} {l : List UInt8} (h : (⟨n, .cells cs t⟩ : Blk).holds w) (hl : (cs.drop off).take l.length = u8s l) : ∀ j (hj : j < l.length), w.cell? ⟨n, off + j, none⟩ = some (.int .u8 (l[j].toNat : Int)) := by
  intro j hj
  simp only [Blk.holds] at h
  simp only [World.cell?, h]
  have h2 := u8s_get hj
  rw [← hl, List.getElem?_take, if_pos hj, List.getElem?_drop] at h2
  simpa using h2
theorem row_cells {w : World} {n off : Nat} {cs : List Value} {t : TypeId} {l : List UInt8} (h : (⟨n, .row cs t⟩ : Blk).holds w) (hl : (cs.drop off).take l.length = u8s l) : ∀ j (hj : j < l.length), w.cell? ⟨n, off + j, none⟩ = some (.int .u8 (l[j].toNat : Int)) := by
  intro j hj
  simp only [Blk.holds] at h
  simp only [World.cell?, h]
  have h2 := u8s_get hj
  rw [← hl, List.getElem?_take, if_pos hj, List.getElem?_drop] at h2
  simpa using h2
section
variable {P : Program} {M RO : List Blk} {k : Kv} {pan : Kp}
theorem b2s_at {src dst e t : TypeId} {n off len cap : Nat} {cs : List Value} (l : List UInt8) [hk : Look M n (.cells cs t)] (hl : (cs.drop off).take l.length = u8s l) (hs : P.underlying src = some (.slice e)) (he : P.underlying e = some (.int .u8)) (hd : P.underlying dst = some .string) (hlen : len = l.length)
    (h : k (.string (str l)) M) : Runs P (VS (convert src dst (.slice (some ⟨n, off, none⟩) len cap))) M k pan := by
  refine ⟨fun A w0 w st => ?_⟩
  rw [conv_run hs he hd hlen (lit_cells (st.has _ hk.mem) hl)]
  exact ⟨M, st, h⟩
theorem qb2s_at {src dst e t : TypeId} {n off len cap : Nat} {cs : List Value} (l : List UInt8) [hk : Look M n (.cells cs t)] (hl : (cs.drop off).take l.length = u8s l) (hs : P.underlying src = some (.slice e)) (he : P.underlying e = some (.int .u8)) (hd : P.underlying dst = some .string) (hlen : len = l.length)
    (h : k (.string (str l)) M) : QRuns P (VS (convert src dst (.slice (some ⟨n, off, none⟩) len cap))) M k :=
  ⟨.string (str l), fun A w0 w st => by rw [conv_run hs he hd hlen (lit_cells (st.has _ hk.mem) hl)]; exact ⟨rfl, rfl⟩, h⟩
theorem fb2s_at {src dst e t : TypeId} {n off len cap : Nat} {cs : List Value} (l : List UInt8) [hk : Look RO n (.cells cs t)] (hl : (cs.drop off).take l.length = u8s l) (hs : P.underlying src = some (.slice e)) (he : P.underlying e = some (.int .u8)) (hd : P.underlying dst = some .string) (hlen : len = l.length)
    (h : k (.string (str l)) M) : FRuns P RO (VS (convert src dst (.slice (some ⟨n, off, none⟩) len cap))) M k :=
  ⟨.string (str l), fun w hm => conv_run hs he hd hlen (lit_cells (hm.1 _ hk.mem) hl), h⟩
theorem fb2s_row {src dst e t : TypeId} {n off len cap : Nat} {cs : List Value} (l : List UInt8) [hk : Look RO n (.row cs t)] (hl : (cs.drop off).take l.length = u8s l) (hs : P.underlying src = some (.slice e)) (he : P.underlying e = some (.int .u8)) (hd : P.underlying dst = some .string) (hlen : len = l.length)
    (h : k (.string (str l)) M) : FRuns P RO (VS (convert src dst (.slice (some ⟨n, off, none⟩) len cap))) M k :=
  ⟨.string (str l), fun w hm => conv_run hs he hd hlen (row_cells (hm.1 _ hk.mem) hl), h⟩
end

/-- An order, with a fork where two operations may come up in either order. -/
inductive Sch where
  | nil
  | take (i : Nat) (s : Sch)
  | only (i : Nat) (s : Sch)
  | two (i j : Nat) (s t : Sch)
noncomputable def stepS (P : Program) (ops : List Oper) (RO : List Blk) (i : Nat) (nx : List Value → List Blk → Ks → Prop) (fr : List Value) (M : List Blk) (K : Ks) : Prop :=
  match ops[i]? with
  | none => False
  | some o => gdK ops fr o.guard (opK (std P) P fr M o (fun v M' => Kept RO M' (putK o.dst fr v fun fr' => nx fr' M' K)) (fun _ _ => False)) (putK o.dst fr undef fun fr' => nx fr' M K)
noncomputable def tw (P : Program) (ops : List Oper) (RO : List Blk) (sch : Sch) : List Value → List Blk → Ks → Prop :=
  Sch.rec (fun fr M K => K .normal fr M)
    (fun i _ ih fr M K => match ops[i]? with
      | none => False
      | some o => gdK ops fr o.guard (opK (fl P RO) P fr M o (fun v M' => putK o.dst fr v fun fr' => ih fr' M' K) (fun _ _ => False)) (putK o.dst fr undef fun fr' => ih fr' M K))
    (fun i _ ih fr M K => stepS P ops RO i ih fr M K)
    (fun i j _ _ ih1 ih2 fr M K => stepS P ops RO i ih1 fr M K ∧ stepS P ops RO j ih2 fr M K) sch
def treeB (ops : Array Oper) : Sch → Array Bool → Nat → Bool
  | .nil, listed, n => (Region.ready .any ops listed).isEmpty && decide (n = 0)
  | .take i s, listed, n + 1 => Region.free .any ops listed i && ((Region.ready .any ops listed).contains i && treeB ops s (listed.setIfInBounds i true) n)
  | .only i s, listed, n + 1 => decide (Region.ready .any ops listed = [i]) && treeB ops s (listed.setIfInBounds i true) n
  | .two i j s t, listed, n + 1 => decide (Region.ready .any ops listed = [i, j]) && (treeB ops s (listed.setIfInBounds i true) n && treeB ops t (listed.setIfInBounds j true) n)
  | _, _, _ => false
section
variable {P : Program} {ops : List Oper} {RO : List Blk} {K : Ks} {A : List Blk} {w0 : World} {ds : List Deferred}
theorem stepS_sound {i : Nat} {nx : List Value → List Blk → Ks → Prop} {R : Act → World → Prop} (hn : ∀ fr M, nx fr M K → ∀ w, St A w0 w M → Mem w RO → R ⟨fr.toArray, ds⟩ w) {fr : List Value} {M : List Blk} (h : stepS P ops RO i nx fr M K) {w : World} (st : St A w0 w M) (hro : Mem w RO) {Q : Exit → Act → World → Prop} :
    wpOp P ops.toArray Q i (fun a w => Mem w RO ∧ R a w) ⟨fr.toArray, ds⟩ w := by
  unfold stepS at h
  cases ho : ops[i]? with
  | none => rw [ho] at h; exact h.elim
  | some o =>
    rw [ho] at h
    simp only at h
    have ho' : ops.toArray[i]? = some o := by simpa using ho
    unfold wpOp
    rw [ho']
    simp only
    rcases gdK_out h with ⟨hw, h⟩ | ⟨hw, h⟩
    · rw [if_pos hw]
      have hr : Runs P (execOp (Act.eval ⟨fr.toArray, []⟩) o) M _ _ := opK_sound (std_sound P) h
      rw [← eval_nil' fr ds] at hr
      refine .inl (wp_of_runs hr st (fun v w' M' st' hk => ?_) fun ch w' M' st' hk => hk.elim)
      obtain ⟨h1, h2⟩ := hk.out
      obtain ⟨fr', e, hk'⟩ := putK_out (ds := ds) h2
      rw [e]
      exact ⟨h1 _ _ _ st', hn fr' M' hk' w' st' (h1 _ _ _ st')⟩
    · rw [if_neg (by simp [hw])]
      obtain ⟨fr', e, hk'⟩ := putK_out (ds := ds) h
      rw [e]
      exact ⟨hro, hn fr' M hk' w st hro⟩
abbrev TQ (A : List Blk) (w0 : World) (ds : List Deferred) (K : Ks) : Exit → Act → World → Prop := fun e a w => e = .normal ∧ ∃ fr' M', a = ⟨fr'.toArray, ds⟩ ∧ St A w0 w M' ∧ K .normal fr' M'
theorem tw_sound (hs : Region.noSelect ops.toArray = true) : ∀ (sch : Sch) (n : Nat) (listed : Array Bool) (fr : List Value) (M : List Blk), treeB ops.toArray sch listed n = true → tw P ops RO sch fr M K →
    ∀ w, St A w0 w M → Mem w RO → wpAnyH P .any ops.toArray (TQ A w0 ds K) (fun w => Mem w RO) n listed ⟨fr.toArray, ds⟩ w
  | .nil, n, listed, fr, M, hb, h, w, st, hro => by
    unfold treeB at hb
    simp only [Bool.and_eq_true, decide_eq_true_eq, List.isEmpty_iff] at hb
    exact wpAnyH_done hb.1 ⟨rfl, fr, M, rfl, st, h⟩ _
  | .take i s, 0, listed, fr, M, hb, h, w, st, hro => by cases hb
  | .only i s, 0, listed, fr, M, hb, h, w, st, hro => by cases hb
  | .two i j s t, 0, listed, fr, M, hb, h, w, st, hro => by cases hb
  | .take i s, n + 1, listed, fr, M, hb, h, w, st, hro => by
    unfold treeB at hb
    simp only [Bool.and_eq_true] at hb
    obtain ⟨hb1, hb2, hb3⟩ := hb
    have h : (match ops[i]? with
      | none => False
      | some o => gdK ops fr o.guard (opK (fl P RO) P fr M o (fun v M' => putK o.dst fr v fun fr' => tw P ops RO s fr' M' K) (fun _ _ => False)) (putK o.dst fr undef fun fr' => tw P ops RO s fr' M K)) := h
    cases ho : ops[i]? with
    | none => rw [ho] at h; exact h.elim
    | some o =>
      rw [ho] at h
      simp only at h
      have ho' : ops.toArray[i]? = some o := by simpa using ho
      have take : ∀ v, YieldsIf P ops.toArray (fun w => Mem w RO) o v ⟨fr.toArray, ds⟩ → putK o.dst fr v (fun fr' => tw P ops RO s fr' M K) →
          wpAnyH P .any ops.toArray (TQ A w0 ds K) (fun w => Mem w RO) (n + 1) listed ⟨fr.toArray, ds⟩ w := by
        intro v hy hk
        refine wpAnyH_take ho' hs hb1 hb2 (fun c a w hq => (by cases hq.1)) hy hro ?_
        obtain ⟨fr', e, hk'⟩ := putK_out (ds := ds) hk
        rw [e]
        exact tw_sound hs s n _ fr' M hb3 hk' w st hro
      rcases gdK_out h with ⟨hw, h⟩ | ⟨hw, h⟩
      · have hr : FRuns P RO (execOp (Act.eval ⟨fr.toArray, []⟩) o) M _ := opK_sound (fl_sound P RO) h
        rw [← eval_nil' fr ds] at hr
        obtain ⟨v, h1, h2⟩ := hr.out
        exact take v (.inl ⟨hw, h1⟩) h2
      · exact take undef (.inr ⟨by simpa using hw, rfl⟩) h
  | .only i s, n + 1, listed, fr, M, hb, h, w, st, hro => by
    unfold treeB at hb
    simp only [Bool.and_eq_true, decide_eq_true_eq] at hb
    refine wpAnyH_all hb.1 (by simp) fun j hj => ?_
    simp only [List.mem_singleton] at hj
    subst hj
    exact stepS_sound (R := wpAnyH P .any ops.toArray (TQ A w0 ds K) (fun w => Mem w RO) n _) (nx := tw P ops RO s) (fun fr M hk w st hro => tw_sound hs s n _ fr M hb.2 hk w st hro) h st hro
  | .two i j s t, n + 1, listed, fr, M, hb, h, w, st, hro => by
    unfold treeB at hb
    simp only [Bool.and_eq_true, decide_eq_true_eq] at hb
    obtain ⟨hb1, hb2, hb3⟩ := hb
    have h : stepS P ops RO i (tw P ops RO s) fr M K ∧ stepS P ops RO j (tw P ops RO t) fr M K := h
    refine wpAnyH_all hb1 (by simp) fun q hq => ?_
    simp only [List.mem_cons, List.not_mem_nil, or_false] at hq
    rcases hq with rfl | rfl
    · exact stepS_sound (R := wpAnyH P .any ops.toArray (TQ A w0 ds K) (fun w => Mem w RO) n _) (nx := tw P ops RO s) (fun fr M hk w st hro => tw_sound hs s n _ fr M hb2 hk w st hro) h.1 st hro
    · exact stepS_sound (R := wpAnyH P .any ops.toArray (TQ A w0 ds K) (fun w => Mem w RO) n _) (nx := tw P ops RO t) (fun fr M hk w st hro => tw_sound hs t n _ fr M hb3 hk w st hro) h.2 st hro
end
def treeOk (ops : List Oper) (sch : Sch) : Bool := Region.noSelect ops.toArray && treeB ops.toArray sch (Array.replicate ops.length false) ops.length
theorem draw_tree (id : Nat) (sch : Sch) (RO : List Blk) {P : Program} {ops : List Oper} {fr : List Value} {M : List Blk} {K : Ks} (hm : P.follows .mixedOrders = true) (hB : treeOk ops sch = true)
    (h : Kept RO M (tw P ops RO sch fr M K)) : CodeW P (.region id ops.toArray true) fr M K := by
  unfold treeOk at hB
  simp only [Bool.and_eq_true] at hB
  obtain ⟨hs, hb⟩ := hB
  refine ⟨fun A w0 w ds st => ?_⟩
  obtain ⟨h1, h2⟩ := h.out
  have st' := st.drew (w.drawn + 1)
  have key := wp_region_held (Q := TQ A w0 ds K) (id := id) (a := ⟨fr.toArray, ds⟩) (w := w) hm (tw_sound (ds := ds) hs sch _ _ fr M hb h2 _ st' (h1 _ _ _ st'))
  refine wp_mono key fun e a' w' hq => ?_
  obtain ⟨rfl, fr', M', rfl, s1, hk⟩ := hq
  exact ⟨fr', M', rfl, s1, hk⟩
theorem kept2 {M M1 : List Blk} {b : Blk} {n' : Nat} {o' : BO} {k : Prop} (ht : Take M b M1) [hl' : Look M1 n' o'] (h : k) : Kept [b, ⟨n', o'⟩] M k := ⟨fun A w0 w st => by
  have st' := st.perm ht.perm
  refine ⟨fun c hc => ?_, List.pairwise_cons.2 ⟨fun c hc => ?_, List.pairwise_singleton _ _⟩⟩
  · simp only [List.mem_cons, List.not_mem_nil, or_false] at hc
    rcases hc with rfl | rfl
    · exact st'.has _ List.mem_cons_self
    · exact st'.has _ (List.mem_cons_of_mem _ hl'.mem)
  · simp only [List.mem_singleton] at hc
    subst hc
    exact (List.pairwise_cons.1 st'.apart).1 _ hl'.mem, h⟩
end Go.Proofs.Ytlmhagngbfcdkaa.Ev
