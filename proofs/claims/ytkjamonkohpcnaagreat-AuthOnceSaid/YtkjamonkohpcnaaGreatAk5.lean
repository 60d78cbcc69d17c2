/- Texts of this proof, merged. -/
import Derived.Test.YtkjamonkohpcnaaGreatAk4
import Derived.OrdersHeld
import Derived.LoopN
import Derived.MapKept
import Derived.Maps.RangeRun
set_option linter.unusedVariables false
set_option linter.unusedSimpArgs false
set_option linter.unusedSectionVars false
set_option maxRecDepth 100000
set_option maxHeartbeats 16000000
namespace Go.Proofs.YtkjamonkohpcnaaGreat
namespace Ev
open Go
structure Kept (RO M : List Blk) (k : Prop) : Prop where
 out : (∀ A w0 w, St A w0 w M → Mem w RO) ∧ k
theorem kept_nil {M : List Blk} {k : Prop} (h : k) : Kept [] M k := ⟨fun A w0 w st => ⟨fun b hb => (by cases hb), List.Pairwise.nil⟩, h⟩
theorem seen1 {M : List Blk} {n : Nat} {o : BO} [hl : Look M n o] : ∀ A w0 w, St A w0 w M → Mem w [⟨n, o⟩] := fun A w0 w st => by
 refine ⟨fun b hb => ?_, List.pairwise_singleton _ _⟩
 simp only [List.mem_singleton] at hb
 subst hb
 exact st.has _ hl.mem
theorem kept1 {M : List Blk} {n : Nat} {o : BO} {k : Prop} [hl : Look M n o] (h : k) : Kept [⟨n, o⟩] M k := ⟨seen1, h⟩
structure FLd1 (RO : List Blk) (b off : Nat) (k : Value → Prop) : Prop where
 out : ∃ v, (∀ w, Mem w RO → w.cell? ⟨b, off, none⟩ = some v) ∧ k v
structure FLdN (RO : List Blk) (b off n : Nat) (k : List Value → Prop) : Prop where
 out : ∃ vs : List Value, vs.length = n ∧ (∀ w, Mem w RO → ∀ j v, vs[j]? = some v → w.cell? ⟨b, off + j, none⟩ = some v) ∧ k vs
structure FRuns (P : Program) (RO : List Blk) (s : Sem Next) (M : List Blk) (k : Kv) : Prop where
 out : ∃ v, (∀ w, Mem w RO → s.run P w = .ok (.value v) w) ∧ k v M
def fl (P : Program) (RO : List Blk) : Md := { ld1 := fun _ => FLd1 RO, ldN := fun _ => FLdN RO, stN := fun _ _ _ _ _ => False, nw := fun _ _ _ _ => False, cl := fun _ _ _ _ _ => False, runs := fun s M k _ => FRuns P RO s M k, pan := fun _ => False }
theorem fl_sound (P : Program) (RO : List Blk) : (fl P RO).Sound P where
 val {s M k pan} v h hk := by
  show FRuns P RO s M k
  exact ⟨v, fun w _ => h w, hk⟩
 congr {s s' M k pan} h hr := by
  show FRuns P RO s M k
  have hr : FRuns P RO s' M k := hr
  obtain ⟨v, h1, h2⟩ := hr.out
  exact ⟨v, fun w st => by rw [h w]; exact h1 w st, h2⟩
 ld1 {s M b off k pan} h hs := by
  show FRuns P RO s M k
  have h : FLd1 RO b off (fun v => k v M) := h
  obtain ⟨v, h1, h2⟩ := h.out
  exact ⟨v, fun w st => hs v w (h1 w st), h2⟩
 ldN {s M b off n k pan} h hs := by
  show FRuns P RO s M k
  have h : FLdN RO b off n (fun vs => k (.agg vs.toArray) M) := h
  obtain ⟨vs, h0, h1, h2⟩ := h.out
  exact ⟨.agg vs.toArray, fun w st => hs vs w h0 (h1 w st), h2⟩
 stN h hs := h.elim
 nw _ h hs := h.elim
 cl h hs := h.elim
 pan h hs := h.elim
noncomputable def fw (P : Program) (ops : List Oper) (RO : List Blk) (sch : List (Nat × Bool)) : List Value → List Blk → Ks → Prop :=
 List.rec (fun fr M K => K .normal fr M) (fun s _ ih fr M K => match s with
  | (i, tk) => match ops[i]? with
    | none => False
    | some o => gdK ops fr o.guard (match tk with
      | true => opK (fl P RO) P fr M o (fun v M' => putK o.dst fr v fun fr' => ih fr' M' K) (fun _ _ => False)
      | false => opK (std P) P fr M o (fun v M' => Kept RO M' (putK o.dst fr v fun fr' => ih fr' M' K)) (fun _ _ => False)) (putK o.dst fr undef fun fr' => ih fr' M K)) sch
theorem fw_cons {P : Program} {ops : List Oper} {RO : List Blk} {i : Nat} {tk : Bool} {sch : List (Nat × Bool)} {fr : List Value} {M : List Blk} {K : Ks} : fw P ops RO ((i, tk) :: sch) fr M K = (match ops[i]? with
 | none => False
 | some o => gdK ops fr o.guard (match tk with
   | true => opK (fl P RO) P fr M o (fun v M' => putK o.dst fr v fun fr' => fw P ops RO sch fr' M' K) (fun _ _ => False)
   | false => opK (std P) P fr M o (fun v M' => Kept RO M' (putK o.dst fr v fun fr' => fw P ops RO sch fr' M' K)) (fun _ _ => False)) (putK o.dst fr undef fun fr' => fw P ops RO sch fr' M K)) := rfl
def schB (ops : Array Oper) : List (Nat × Bool) → Array Bool → Bool
 | [], listed => (Region.ready .any ops listed).isEmpty
 | (i, tk) :: sch, listed => (match tk with
     | true => Region.free .any ops listed i && (Region.ready .any ops listed).contains i
     | false => decide (Region.ready .any ops listed = [i])) && schB ops sch (listed.setIfInBounds i true)
theorem fw_sound {P : Program} {ops : List Oper} {RO : List Blk} {K : Ks} {A : List Blk} {w0 : World} {ds : List Deferred} (hs : Region.noSelect ops.toArray = true) : ∀ (sch : List (Nat × Bool)) (listed : Array Bool) (fr : List Value) (M : List Blk), schB ops.toArray sch listed = true → fw P ops RO sch fr M K →
 ∀ w, St A w0 w M → Mem w RO → wpAnyH P .any ops.toArray (fun e a w => e = .normal ∧ ∃ fr' M', a = ⟨fr'.toArray, ds⟩ ∧ St A w0 w M' ∧ K .normal fr' M') (fun w => Mem w RO) sch.length listed ⟨fr.toArray, ds⟩ w
 | [], listed, fr, M, hb, h, w, st, hro => wpAnyH_done (by simpa [schB] using hb) ⟨rfl, fr, M, rfl, st, h⟩ _
 | (i, tk) :: sch, listed, fr, M, hb, h, w, st, hro => by
   rw [fw_cons] at h
   unfold schB at hb
   simp only [Bool.and_eq_true] at hb
   obtain ⟨hb1, hb2⟩ := hb
   cases ho : ops[i]? with
   | none => rw [ho] at h; exact h.elim
   | some o =>
     rw [ho] at h
     simp only at h
     have ho' : ops.toArray[i]? = some o := by simpa using ho
     cases tk with
     | true =>
       simp only [Bool.and_eq_true] at hb1
       have take : ∀ v, YieldsIf P ops.toArray (fun w => Mem w RO) o v ⟨fr.toArray, ds⟩ → putK o.dst fr v (fun fr' => fw P ops RO sch fr' M K) →
        wpAnyH P .any ops.toArray (fun e a w => e = .normal ∧ ∃ fr' M', a = ⟨fr'.toArray, ds⟩ ∧ St A w0 w M' ∧ K .normal fr' M') (fun w => Mem w RO) (sch.length + 1) listed ⟨fr.toArray, ds⟩ w := by
        intro v hy hk
        refine wpAnyH_take ho' hs hb1.1 hb1.2 (fun c a w hq => (by cases hq.1)) hy hro ?_
        obtain ⟨fr', e, hk'⟩ := putK_out (ds := ds) hk
        rw [e]
        exact fw_sound hs sch _ fr' M hb2 hk' w st hro
       rcases gdK_out h with ⟨hw, h⟩ | ⟨hw, h⟩
       · have hr : FRuns P RO (execOp (Act.eval ⟨fr.toArray, []⟩) o) M _ := opK_sound (fl_sound P RO) h
         rw [← eval_nil' fr ds] at hr
         obtain ⟨v, h1, h2⟩ := hr.out
         exact take v (.inl ⟨hw, h1⟩) h2
       · exact take undef (.inr ⟨by simpa using hw, rfl⟩) h
     | false =>
       simp only [decide_eq_true_eq] at hb1
       refine wpAnyH_all hb1 (by simp) fun j hj => ?_
       simp only [List.mem_singleton] at hj
       subst hj
       unfold wpOp
       rw [ho']
       simp only
       rcases gdK_out h with ⟨hw, h⟩ | ⟨hw, h⟩
       · rw [if_pos hw]
         have hr : Runs P (execOp (Act.eval ⟨fr.toArray, []⟩) o) M _ _ := opK_sound (std_sound P) h
         rw [← eval_nil' fr ds] at hr
         refine .inl (wp_of_runs hr st (fun v w' M' st' hk => ?_) fun ch w' M' st' hk => hk.elim)
         obtain ⟨h1, h2⟩ := hk.out
         obtain ⟨fr', e, hk'⟩ := putK_out (ds := ds) h2
         rw [e]
         exact ⟨h1 _ _ _ st', fw_sound hs sch _ fr' M' hb2 hk' w' st' (h1 _ _ _ st')⟩
       · rw [if_neg (by simp [hw])]
         obtain ⟨fr', e, hk'⟩ := putK_out (ds := ds) h
         rw [e]
         exact ⟨hro, fw_sound hs sch _ fr' M hb2 hk' w st hro⟩
def schOk (ops : List Oper) (sch : List (Nat × Bool)) : Bool := Region.noSelect ops.toArray && (decide (sch.length = ops.length) && schB ops.toArray sch (Array.replicate ops.length false))
theorem draw_any (id : Nat) (sch : List (Nat × Bool)) (RO : List Blk) {P : Program} {ops : List Oper} {fr : List Value} {M : List Blk} {K : Ks} (hm : P.follows .mixedOrders = true) (hB : schOk ops sch = true)
 (h : Kept RO M (fw P ops RO sch fr M K)) : CodeW P (.region id ops.toArray true) fr M K := by
 unfold schOk at hB
 simp only [Bool.and_eq_true, decide_eq_true_eq] at hB
 obtain ⟨hs, hl, hb⟩ := hB
 refine ⟨fun A w0 w ds st => ?_⟩
 obtain ⟨h1, h2⟩ := h.out
 have st' := st.drew (w.drawn + 1)
 have key := wp_region_held (Q := fun e a w => e = .normal ∧ ∃ fr' M', a = ⟨fr'.toArray, ds⟩ ∧ St A w0 w M' ∧ K .normal fr' M') (id := id) (a := ⟨fr.toArray, ds⟩) (w := w) hm (by
  have := fw_sound (ds := ds) hs sch _ fr M hb h2 _ st' (h1 _ _ _ st')
  rw [hl] at this
  exact this)
 refine wp_mono key fun e a' w' hq => ?_
 obtain ⟨rfl, fr', M', rfl, s1, hk⟩ := hq
 exact ⟨fr', M', rfl, s1, hk⟩
theorem fld1 {n off : Nat} {cs : List Value} {t : TypeId} {k : Value → Prop} {RO : List Blk} [h : Look RO n (.cells cs t)] (hk : getOK cs off k) : FLd1 RO n off k := by
 obtain ⟨v, hv, hk⟩ := getOK_out hk
 refine ⟨v, fun w hm => ?_, hk⟩
 have := hm.1 _ h.mem
 simp only [Blk.holds] at this
 simp [World.cell?, this, hv]
theorem fld1_row {n off : Nat} {cs : List Value} {t : TypeId} {k : Value → Prop} {RO : List Blk} {v : Value} [h : Look RO n (.row cs t)] (hv : cs[off]? = some v) (hk : k v) : FLd1 RO n off k := by
 refine ⟨v, fun w hm => ?_, hk⟩
 have := hm.1 _ h.mem
 simp only [Blk.holds] at this
 simp [World.cell?, this, hv]
end Ev
namespace Ev
open Go
noncomputable def lw (P : Program) (c : Code) (n : Nat) : List Value → List Blk → Ks → Prop :=
 Nat.rec (fun _ _ _ => False) (fun _ ih fr M K => cw P c fr M fun e fr' M' => match e with
  | .normal => ih fr' M' K
  | e => K e fr' M') n
theorem lw_succ {P : Program} {c : Code} {n : Nat} {fr : List Value} {M : List Blk} {K : Ks} : lw P c (n + 1) fr M K = cw P c fr M fun e fr' M' => match e with
 | .normal => lw P c n fr' M' K
 | e => K e fr' M' := rfl
theorem lw_sound {P : Program} {c : Code} {K : Ks} {A : List Blk} {w0 : World} {ds : List Deferred} : ∀ (n : Nat) (fr : List Value) (M : List Blk), lw P c n fr M K → ∀ w, St A w0 w M → Code.rounds P c (QQ A w0 ds K) n ⟨fr.toArray, ds⟩ w
 | 0, fr, M, h, w, st => h.elim
 | n + 1, fr, M, h, w, st => by
   rw [lw_succ] at h
   rw [rounds_succ]
   refine wp_mono (cw_sound c fr M _ h A w0 w ds st) fun e a' w' hq => ?_
   obtain ⟨fr', M', rfl, st', hk⟩ := hq
   cases e with
   | normal => exact lw_sound n fr' M' hk w' st'
   | _ => exact ⟨fr', M', rfl, st', hk⟩
theorem loop_n (n : Nat) {P : Program} {c : Code} {fr : List Value} {M : List Blk} {K : Ks} (h : lw P c n fr M K) : CodeW P (.loop c) fr M K :=
 ⟨fun A w0 w ds st => wp_loop_rounds n (lw_sound n fr M h w st)⟩
theorem copy_str {P : Program} {M : List Blk} {k : Kv} {pan : Kp} {dT sT ty e : TypeId} {b o dl dc n : Nat} {s : ByteArray} {i : TypeInfo} (hu : P.underlying dT = some (.slice e)) (hi : P.info? e = some i) (hs : i.size = 1) (hn : s.size = n) (hle : n ≤ dl)
 (h : StN P M b o (s.data.toList.map fun x => Value.int .u8 (x.toNat : Int)) (fun M' => k (.int .i64 n) M')) : Runs P (VS (Builtin.copy_ #[dT, sT] ty #[.slice (some ⟨b, o, none⟩) dl dc, .string s])) M k pan := by
 refine ⟨fun A w0 w st => ?_⟩
 obtain ⟨w', M', hr, st', hk⟩ := h.out A w0 w st
 have hmin : Nat.min s.size dl = s.size := Nat.min_eq_left (by omega)
 have hl : (s.data.toList.map fun x => Value.int .u8 (x.toNat : Int)).length = s.size := by rw [List.length_map]; rfl
 have hrun : (Builtin.copy_ #[dT, sT] ty #[.slice (some ⟨b, o, none⟩) dl dc, .string s]).run P w = .ok (goInt n) w' := by
  simp [Builtin.copy_, run_underlying hu, Builtin.lenOf, Builtin.firstCells, Go.sizeOf, typeInfo, hi, hs, hmin]
  rw [List.take_of_length_le (by rw [hl]; exact Nat.le_refl _), hr, hn]
  rfl
 simp only [VS, Sem.run_bind, hrun, Result.andThen_ok, Sem.run_pure]
 exact ⟨M', st', hk⟩
theorem conv_run {P : Program} {src dst e : TypeId} {n off len cap : Nat} {l : List UInt8} {w : World} (hs : P.underlying src = some (.slice e)) (he : P.underlying e = some (.int .u8)) (hd : P.underlying dst = some .string) (hlen : len = l.length)
 (hc : ∀ j (hj : j < l.length), w.cell? ⟨n, off + j, none⟩ = some (.int .u8 (l[j].toNat : Int))) : (VS (convert src dst (.slice (some ⟨n, off, none⟩) len cap))).run P w = .ok (.value (.string (str l))) w := by
 have hr := run_convert_bytes_back (P := P) w src dst e ⟨n, off, none⟩ cap l hs he hd (fun j hj => by rw [add_none]; exact hc j hj)
 simp only [VS, Sem.run_bind, hlen, hr, Result.andThen_ok, Sem.run_pure]
 rfl
theorem lit_cells {w : World} {n off : Nat} {cs : List Value} {t : TypeId} {l : List UInt8} (h : (⟨n, .cells cs t⟩ : Blk).holds w) (hl : (cs.drop off).take l.length = u8s l) : ∀ j (hj : j < l.length), w.cell? ⟨n, off + j, none⟩ = some (.int .u8 (l[j].toNat : Int)) := by
 intro j hj
 simp only [Blk.holds] at h
 simp only [World.cell?, h]
 have h2 := u8s_get hj
 rw [← hl, List.getElem?_take, if_pos hj, List.getElem?_drop] at h2
 simpa using h2
section
variable {P : Program} {M RO : List Blk} {k : Kv} {pan : Kp}
theorem qb2s_at {src dst e t : TypeId} {n off len cap : Nat} {cs : List Value} (l : List UInt8) [hk : Look M n (.cells cs t)] (hl : (cs.drop off).take l.length = u8s l) (hs : P.underlying src = some (.slice e)) (he : P.underlying e = some (.int .u8)) (hd : P.underlying dst = some .string) (hlen : len = l.length)
 (h : k (.string (str l)) M) : QRuns P (VS (convert src dst (.slice (some ⟨n, off, none⟩) len cap))) M k :=
 ⟨.string (str l), fun A w0 w st => by rw [conv_run hs he hd hlen (lit_cells (st.has _ hk.mem) hl)]; exact ⟨rfl, rfl⟩, h⟩
end
inductive Sch where
 | nil
 | take (i : Nat) (s : Sch)
 | only (i : Nat) (s : Sch)
 | two (i j : Nat) (s t : Sch)
noncomputable def stepS (P : Program) (ops : List Oper) (RO : List Blk) (i : Nat) (nx : List Value → List Blk → Ks → Prop) (fr : List Value) (M : List Blk) (K : Ks) : Prop :=
 match ops[i]? with
 | none => False
 | some o => gdK ops fr o.guard (opK (std P) P fr M o (fun v M' => Kept RO M' (putK o.dst fr v fun fr' => nx fr' M' K)) (fun _ _ => False)) (putK o.dst fr undef fun fr' => nx fr' M K)
noncomputable def tw (P : Program) (ops : List Oper) (RO : List Blk) (sch : Sch) : List Value → List Blk → Ks → Prop :=
 Sch.rec (fun fr M K => K .normal fr M)
  (fun i _ ih fr M K => match ops[i]? with
    | none => False
    | some o => gdK ops fr o.guard (opK (fl P RO) P fr M o (fun v M' => putK o.dst fr v fun fr' => ih fr' M' K) (fun _ _ => False)) (putK o.dst fr undef fun fr' => ih fr' M K))
  (fun i _ ih fr M K => stepS P ops RO i ih fr M K)
  (fun i j _ _ ih1 ih2 fr M K => stepS P ops RO i ih1 fr M K ∧ stepS P ops RO j ih2 fr M K) sch
def treeB (ops : Array Oper) : Sch → Array Bool → Nat → Bool
 | .nil, listed, n => (Region.ready .any ops listed).isEmpty && decide (n = 0)
 | .take i s, listed, n + 1 => Region.free .any ops listed i && ((Region.ready .any ops listed).contains i && treeB ops s (listed.setIfInBounds i true) n)
 | .only i s, listed, n + 1 => decide (Region.ready .any ops listed = [i]) && treeB ops s (listed.setIfInBounds i true) n
 | .two i j s t, listed, n + 1 => decide (Region.ready .any ops listed = [i, j]) && (treeB ops s (listed.setIfInBounds i true) n && treeB ops t (listed.setIfInBounds j true) n)
 | _, _, _ => false
section
variable {P : Program} {ops : List Oper} {RO : List Blk} {K : Ks} {A : List Blk} {w0 : World} {ds : List Deferred}
theorem stepS_sound {i : Nat} {nx : List Value → List Blk → Ks → Prop} {R : Act → World → Prop} (hn : ∀ fr M, nx fr M K → ∀ w, St A w0 w M → Mem w RO → R ⟨fr.toArray, ds⟩ w) {fr : List Value} {M : List Blk} (h : stepS P ops RO i nx fr M K) {w : World} (st : St A w0 w M) (hro : Mem w RO) {Q : Exit → Act → World → Prop} :
 wpOp P ops.toArray Q i (fun a w => Mem w RO ∧ R a w) ⟨fr.toArray, ds⟩ w := by
 unfold stepS at h
 cases ho : ops[i]? with
 | none => rw [ho] at h; exact h.elim
 | some o =>
   rw [ho] at h
   simp only at h
   have ho' : ops.toArray[i]? = some o := by simpa using ho
   unfold wpOp
   rw [ho']
   simp only
   rcases gdK_out h with ⟨hw, h⟩ | ⟨hw, h⟩
   · rw [if_pos hw]
     have hr : Runs P (execOp (Act.eval ⟨fr.toArray, []⟩) o) M _ _ := opK_sound (std_sound P) h
     rw [← eval_nil' fr ds] at hr
     refine .inl (wp_of_runs hr st (fun v w' M' st' hk => ?_) fun ch w' M' st' hk => hk.elim)
     obtain ⟨h1, h2⟩ := hk.out
     obtain ⟨fr', e, hk'⟩ := putK_out (ds := ds) h2
     rw [e]
     exact ⟨h1 _ _ _ st', hn fr' M' hk' w' st' (h1 _ _ _ st')⟩
   · rw [if_neg (by simp [hw])]
     obtain ⟨fr', e, hk'⟩ := putK_out (ds := ds) h
     rw [e]
     exact ⟨hro, hn fr' M hk' w st hro⟩
abbrev TQ (A : List Blk) (w0 : World) (ds : List Deferred) (K : Ks) : Exit → Act → World → Prop := fun e a w => e = .normal ∧ ∃ fr' M', a = ⟨fr'.toArray, ds⟩ ∧ St A w0 w M' ∧ K .normal fr' M'
theorem tw_sound (hs : Region.noSelect ops.toArray = true) : ∀ (sch : Sch) (n : Nat) (listed : Array Bool) (fr : List Value) (M : List Blk), treeB ops.toArray sch listed n = true → tw P ops RO sch fr M K →
 ∀ w, St A w0 w M → Mem w RO → wpAnyH P .any ops.toArray (TQ A w0 ds K) (fun w => Mem w RO) n listed ⟨fr.toArray, ds⟩ w
 | .nil, n, listed, fr, M, hb, h, w, st, hro => by
   unfold treeB at hb
   simp only [Bool.and_eq_true, decide_eq_true_eq, List.isEmpty_iff] at hb
   exact wpAnyH_done hb.1 ⟨rfl, fr, M, rfl, st, h⟩ _
 | .take i s, 0, listed, fr, M, hb, h, w, st, hro => by cases hb
 | .only i s, 0, listed, fr, M, hb, h, w, st, hro => by cases hb
 | .two i j s t, 0, listed, fr, M, hb, h, w, st, hro => by cases hb
 | .take i s, n + 1, listed, fr, M, hb, h, w, st, hro => by
   unfold treeB at hb
   simp only [Bool.and_eq_true] at hb
   obtain ⟨hb1, hb2, hb3⟩ := hb
   have h : (match ops[i]? with
    | none => False
    | some o => gdK ops fr o.guard (opK (fl P RO) P fr M o (fun v M' => putK o.dst fr v fun fr' => tw P ops RO s fr' M' K) (fun _ _ => False)) (putK o.dst fr undef fun fr' => tw P ops RO s fr' M K)) := h
   cases ho : ops[i]? with
   | none => rw [ho] at h; exact h.elim
   | some o =>
     rw [ho] at h
     simp only at h
     have ho' : ops.toArray[i]? = some o := by simpa using ho
     have take : ∀ v, YieldsIf P ops.toArray (fun w => Mem w RO) o v ⟨fr.toArray, ds⟩ → putK o.dst fr v (fun fr' => tw P ops RO s fr' M K) →
      wpAnyH P .any ops.toArray (TQ A w0 ds K) (fun w => Mem w RO) (n + 1) listed ⟨fr.toArray, ds⟩ w := by
      intro v hy hk
      refine wpAnyH_take ho' hs hb1 hb2 (fun c a w hq => (by cases hq.1)) hy hro ?_
      obtain ⟨fr', e, hk'⟩ := putK_out (ds := ds) hk
      rw [e]
      exact tw_sound hs s n _ fr' M hb3 hk' w st hro
     rcases gdK_out h with ⟨hw, h⟩ | ⟨hw, h⟩
     · have hr : FRuns P RO (execOp (Act.eval ⟨fr.toArray, []⟩) o) M _ := opK_sound (fl_sound P RO) h
       rw [← eval_nil' fr ds] at hr
       obtain ⟨v, h1, h2⟩ := hr.out
       exact take v (.inl ⟨hw, h1⟩) h2
     · exact take undef (.inr ⟨by simpa using hw, rfl⟩) h
 | .only i s, n + 1, listed, fr, M, hb, h, w, st, hro => by
   unfold treeB at hb
   simp only [Bool.and_eq_true, decide_eq_true_eq] at hb
   refine wpAnyH_all hb.1 (by simp) fun j hj => ?_
   simp only [List.mem_singleton] at hj
   subst hj
   exact stepS_sound (R := wpAnyH P .any ops.toArray (TQ A w0 ds K) (fun w => Mem w RO) n _) (nx := tw P ops RO s) (fun fr M hk w st hro => tw_sound hs s n _ fr M hb.2 hk w st hro) h st hro
 | .two i j s t, n + 1, listed, fr, M, hb, h, w, st, hro => by
   unfold treeB at hb
   simp only [Bool.and_eq_true, decide_eq_true_eq] at hb
   obtain ⟨hb1, hb2, hb3⟩ := hb
   have h : stepS P ops RO i (tw P ops RO s) fr M K ∧ stepS P ops RO j (tw P ops RO t) fr M K := h
   refine wpAnyH_all hb1 (by simp) fun q hq => ?_
   simp only [List.mem_cons, List.not_mem_nil, or_false] at hq
   rcases hq with rfl | rfl
   · exact stepS_sound (R := wpAnyH P .any ops.toArray (TQ A w0 ds K) (fun w => Mem w RO) n _) (nx := tw P ops RO s) (fun fr M hk w st hro => tw_sound hs s n _ fr M hb2 hk w st hro) h.1 st hro
   · exact stepS_sound (R := wpAnyH P .any ops.toArray (TQ A w0 ds K) (fun w => Mem w RO) n _) (nx := tw P ops RO t) (fun fr M hk w st hro => tw_sound hs t n _ fr M hb3 hk w st hro) h.2 st hro
end
def treeOk (ops : List Oper) (sch : Sch) : Bool := Region.noSelect ops.toArray && treeB ops.toArray sch (Array.replicate ops.length false) ops.length
theorem draw_tree (id : Nat) (sch : Sch) (RO : List Blk) {P : Program} {ops : List Oper} {fr : List Value} {M : List Blk} {K : Ks} (hm : P.follows .mixedOrders = true) (hB : treeOk ops sch = true)
 (h : Kept RO M (tw P ops RO sch fr M K)) : CodeW P (.region id ops.toArray true) fr M K := by
 unfold treeOk at hB
 simp only [Bool.and_eq_true] at hB
 obtain ⟨hs, hb⟩ := hB
 refine ⟨fun A w0 w ds st => ?_⟩
 obtain ⟨h1, h2⟩ := h.out
 have st' := st.drew (w.drawn + 1)
 have key := wp_region_held (Q := TQ A w0 ds K) (id := id) (a := ⟨fr.toArray, ds⟩) (w := w) hm (tw_sound (ds := ds) hs sch _ _ fr M hb h2 _ st' (h1 _ _ _ st'))
 refine wp_mono key fun e a' w' hq => ?_
 obtain ⟨rfl, fr', M', rfl, s1, hk⟩ := hq
 exact ⟨fr', M', rfl, s1, hk⟩
theorem kept2 {M M1 : List Blk} {b : Blk} {n' : Nat} {o' : BO} {k : Prop} (ht : Take M b M1) [hl' : Look M1 n' o'] (h : k) : Kept [b, ⟨n', o'⟩] M k := ⟨fun A w0 w st => by
 have st' := st.perm ht.perm
 refine ⟨fun c hc => ?_, List.pairwise_cons.2 ⟨fun c hc => ?_, List.pairwise_singleton _ _⟩⟩
 · simp only [List.mem_cons, List.not_mem_nil, or_false] at hc
   rcases hc with rfl | rfl
   · exact st'.has _ List.mem_cons_self
   · exact st'.has _ (List.mem_cons_of_mem _ hl'.mem)
 · simp only [List.mem_singleton] at hc
   subst hc
   exact (List.pairwise_cons.1 st'.apart).1 _ hl'.mem, h⟩
end Ev
namespace Ev
open Go
section
variable {P : Program} {M : List Blk} {k : Kv} {pan : Kp}
theorem app_at {S : Own} {t ty e : TypeId} {xs news : List Value} {n m g' o c : Nat} {f : List Blk → List Blk} {i : TypeInfo} {z : Value} [hz : ZipO M S e xs f] (ht : P.underlying t = some (.slice e))
 (hi : P.info? e = some i) (hzv : i.zero = some z) (hzc : z.cells = #[z]) (hs1 : i.size = 1) (hok : S.ok 1 n xs) (hl : news.length = m) (h1 : ∀ u ∈ news, u.oneCell' = true) (hb : (n + m) * i.bytes ≤ 140737488355328) (hb2 : n + m ≤ 9223372036854775807)
 (hc : ∀ A w0 w, St A w0 w M → ∀ j v, news[j]? = some v → w.cell? ⟨g', o + j, none⟩ = some v)
 (h : ∀ S' : Own, S'.ok 1 (n + m) (xs ++ news) → k (S'.val (n + m)) (f (S'.blk e (xs ++ news)))) :
 Runs P (VS (Builtin.append_ #[t, t] ty #[S.val n, .slice (some ⟨g', o, none⟩) m c])) M k pan := by
 have hxl : xs.length = n := by have := hok.1; omega
 refine app_core (z := z) (i := i) hzc hs1 hl hok ?_ ?_ ?_ ?_ h
 · intro hS hm A w0 w st
   subst hS
   have hn0 : n = 0 := hok.2
   subst hn0
   exact run_append_nil (P := P) w t ty e i z ht hi hzv ⟨g', o, none⟩ m c news (by rw [hs1]; omega) (fun j v hj => by rw [add_none]; exact hc A w0 w st j v hj) hm (by omega) (by simp only [Nat.zero_add] at hb; omega)
 · intro hS hm w
   subst hS
   have hn0 : n = 0 := hok.2
   subst hm
   simp [hn0, Own.p, Own.c, Builtin.append_, run_underlying ht, sizeOf, typeInfo, hi, Builtin.lenOf, Builtin.firstCells, loadCells, loadCellsFrom]
 · intro g cap junk hS hr A w0 w st hg
   subst hS
   have := run_append_room (P := P) w t ty e i ht hi g n cap (xs ++ junk).toArray hg ⟨g', o, none⟩ m c news (by rw [hs1]; omega) (fun j v hj => by rw [add_none]; exact hc A w0 w st j v hj) h1 hr (by have := hok.2.2; simp [hs1] at this ⊢; omega)
   refine Eq.trans this ?_
   simp [hs1, hl]
 · intro g cap junk hS hr A w0 w st hc'
   subst hS
   have := run_append_grow (P := P) w t ty e i z ht hi hzv ⟨g, 0, none⟩ n cap xs (by rw [hs1]; omega) (fun j v hj => by rw [add_none, Nat.zero_add]; exact hc' j v hj) ⟨g', o, none⟩ m c news (by rw [hs1]; omega) (fun j v hj => by rw [add_none]; exact hc A w0 w st j v hj) (by omega) (by omega) (growslice_fits (by omega) hb)
   exact this
theorem cells_from {n off : Nat} {cs : List Value} {t : TypeId} {l : List Value} [hk : Look M n (.cells cs t)] (hl : (cs.drop off).take l.length = l) : ∀ (A : List Blk) (w0 w : World), St A w0 w M → ∀ (j : Nat) (v : Value), l[j]? = some v → w.cell? ⟨n, off + j, none⟩ = some v := by
 intro A w0 w st j v hj
 have hjl := (List.getElem?_eq_some_iff.1 hj).1
 rw [← hl, List.getElem?_take, if_pos hjl, List.getElem?_drop] at hj
 exact cells_at A w0 w st (off + j) v hj
end
end Ev
namespace Ev
open Go
section
variable {P : Program} {M : List Blk} {k : Kv} {pan : Kp}
theorem zero_len (z : Array Value) (n : Nat) : (Builtin.zeroCells z n).toList.length = n * z.size := by simp [Builtin.zeroCells]
theorem app_wide {S : Own} {t ty e : TypeId} {xs news : List Value} {n m g' o c sz : Nat} {f : List Blk → List Blk} {i : TypeInfo} {z : Value} [hz : ZipO M S e xs f] (ht : P.underlying t = some (.slice e))
 (hi : P.info? e = some i) (hzv : i.zero = some z) (hsz : i.size = sz) (hzs : z.cells.size = sz) (hok : S.ok sz n xs) (hl : news.length = m * sz) (hm0 : 0 < m) (h1 : ∀ u ∈ news, u.oneCell' = true) (hb : (n + m) * i.bytes ≤ 140737488355328) (hb2 : n + m ≤ 9223372036854775807)
 (hc : ∀ A w0 w, St A w0 w M → ∀ j v, news[j]? = some v → w.cell? ⟨g', o + j, none⟩ = some v)
 (h : ∀ S' : Own, S'.ok sz (n + m) (xs ++ news) → k (S'.val (n + m)) (f (S'.blk e (xs ++ news)))) :
 Runs P (VS (Builtin.append_ #[t, t] ty #[S.val n, .slice (some ⟨g', o, none⟩) m c])) M k pan := by
 obtain ⟨L, R, e1, e2⟩ := hz.out
 have hxl : xs.length = n * sz := hok.1
 refine ⟨fun A w0 w st => ?_⟩
 generalize hs : Builtin.append_ #[t, t] ty #[S.val n, .slice (some ⟨g', o, none⟩) m c] = s
 have new : ∀ (cs : List Value) (cap : Nat), s.run P w = .ok (.slice (some ⟨w.heap.size, 0, none⟩) (n + m) cap) (w.drew.alloc (.cells (xs ++ news ++ cs).toArray e)) → n + m ≤ cap → (xs ++ news ++ cs).length = cap * sz →
  PostN P (fun v w' => ∃ M', St A w0 w' M' ∧ k v M') (fun ch w' => ∃ M', St A w0 w' M' ∧ pan ch M') ((VS s).run P w) := by
  intro cs cap hr hle hcl
  have : (VS s).run P w = .ok (.value (.slice (some ⟨w.heap.size, 0, none⟩) (n + m) cap)) (w.drew.alloc (.cells (xs ++ news ++ cs).toArray e)) := by
   simp only [VS, Sem.run_bind, hr, Result.andThen_ok, Sem.run_pure]
  rw [this]
  have st1 := (st.drew (w.drawn + 1)).new (.cells (xs ++ news ++ cs).toArray e) (.row (xs ++ news ++ cs) e) (by simp [Blk.holds])
  rw [e1] at st1
  have st2 := St.drop_mid (L := (⟨w.heap.size, .row (xs ++ news ++ cs) e⟩ : Blk) :: L) (K := S.blk e xs) (R := R) st1
  refine ⟨_, ?_, h (.at_ w.heap.size cap cs) ⟨by rw [List.length_append, hxl, hl, Nat.add_mul], hle, by simpa using hcl⟩⟩
  rw [e2]
  refine st2.perm ?_
  simp only [Own.blk, List.cons_append, List.nil_append]
  exact (List.perm_middle).symm
 cases S with
 | nil =>
   have hn0 : n = 0 := hok.2
   have hx0 : xs = [] := List.eq_nil_of_length_eq_zero (by rw [hxl, hn0, Nat.zero_mul])
   subst hn0; subst hx0
   have hr := run_append_nil (P := P) w t ty e i z ht hi hzv ⟨g', o, none⟩ m c news (by rw [hsz, hl]) (fun j v hj => by rw [add_none]; exact hc A w0 w st j v hj) hm0 (by omega) (by simp only [Nat.zero_add] at hb; omega)
   have hge := grownCap_ge w m 0 e
   refine new (Builtin.zeroCells z.cells (grownCap w m 0 e - m)).toList (grownCap w m 0 e) ?_ (by omega) ?_
   · rw [← hs]
     refine Eq.trans hr ?_
     have ea : news.toArray ++ Builtin.zeroCells z.cells (grownCap w m 0 e - m) = ([] ++ news ++ (Builtin.zeroCells z.cells (grownCap w m 0 e - m)).toList).toArray := by apply Array.ext'; simp
     rw [ea, Nat.zero_add]
   · rw [List.nil_append, List.length_append, hl, zero_len, hzs, ← Nat.add_mul]
     congr 1; omega
 | at_ g cap junk =>
   obtain ⟨q1, q2⟩ := hok.2
   have hg : w.heap[g]? = some (.cells (xs ++ junk).toArray e (0, 0)) := by
    have := st.has ⟨g, .row (xs ++ junk) e⟩ (by rw [e1]; simp [Own.blk])
    exact this
   by_cases hr : n + m ≤ cap
   · have hfit : (n + m) * sz ≤ cap * sz := Nat.mul_le_mul_right _ hr
     have hrun := run_append_room (P := P) w t ty e i ht hi g n cap (xs ++ junk).toArray hg ⟨g', o, none⟩ m c news (by rw [hsz, hl]) (fun j v hj => by rw [add_none]; exact hc A w0 w st j v hj) h1 hr (by
      rw [hsz, hl, ← Nat.add_mul]
      rw [List.size_toArray, q2]; exact hfit)
     have : (VS s).run P w = .ok (.value (.slice (some ⟨g, 0, none⟩) (n + m) cap)) (w.setRow g ((xs ++ junk).take (n * sz) ++ news ++ (xs ++ junk).drop (n * sz + m * sz)).toArray) := by
      rw [← hs]
      rw [hsz, hl] at hrun
      simp only [VS, Sem.run_bind, Own.val, Own.p, Own.c, hrun, Result.andThen_ok, Sem.run_pure]
     rw [this]
     have et : (xs ++ junk).take (n * sz) ++ news ++ (xs ++ junk).drop (n * sz + m * sz) = xs ++ news ++ junk.drop (m * sz) := by
      rw [List.take_append_of_le_length (by omega), List.take_of_length_le (by omega), List.drop_append, List.drop_of_length_le (by omega)]
      simp [hxl]
     rw [et]
     have hu : Upd M g (.row (xs ++ junk) e) (.row (xs ++ news ++ junk.drop (m * sz)) e) (L ++ (⟨g, .row (xs ++ news ++ junk.drop (m * sz)) e⟩ :: R)) := ⟨⟨L, R, by rw [e1]; rfl, rfl⟩⟩
     refine ⟨_, ?_, h (.at_ g cap (junk.drop (m * sz))) ⟨by rw [List.length_append, hxl, hl, Nat.add_mul], hr, ?_⟩⟩
     · rw [e2]
       exact setRow_st st hu (.inr rfl) (.inr rfl)
     · rw [List.length_append] at q2
       rw [List.length_append, List.length_append, List.length_drop, hl, hxl]
       rw [Nat.add_mul] at hfit
       omega
   · have hrun := run_append_grow (P := P) w t ty e i z ht hi hzv ⟨g, 0, none⟩ n cap xs (by rw [hsz, hxl]) (fun j v hj => by
      rw [add_none, Nat.zero_add]
      have hj' := (List.getElem?_eq_some_iff.1 hj).1
      simp only [World.cell?, hg]
      rw [List.getElem?_toArray, List.getElem?_append_left hj']
      exact hj) ⟨g', o, none⟩ m c news (by rw [hsz, hl]) (fun j v hj => by rw [add_none]; exact hc A w0 w st j v hj) (by omega) (by omega) (growslice_fits (by omega) hb)
     have hge := grownCap_ge w (n + m) cap e
     refine new (Builtin.zeroCells z.cells (grownCap w (n + m) cap e - (n + m))).toList (grownCap w (n + m) cap e) ?_ (by omega) ?_
     · rw [← hs]
       refine Eq.trans hrun ?_
       have ea : xs.toArray ++ news.toArray ++ Builtin.zeroCells z.cells (grownCap w (n + m) cap e - (n + m)) = (xs ++ news ++ (Builtin.zeroCells z.cells (grownCap w (n + m) cap e - (n + m))).toList).toArray := by apply Array.ext'; simp
       rw [ea]
     · rw [List.length_append, List.length_append, hxl, hl, zero_len, hzs, ← Nat.add_mul, ← Nat.add_mul]
       congr 1; omega
end
end Ev
namespace Ev
open Go
section
variable {P : Program} {M RO : List Blk} {k : Kv} {pan : Kp}
theorem row_at {w : World} {n off : Nat} {cs l : List Value} {t : TypeId} (h : (⟨n, .row cs t⟩ : Blk).holds w) (hl : (cs.drop off).take l.length = l) : ∀ j v, l[j]? = some v → w.cell? ⟨n, off + j, none⟩ = some v := by
 intro j v hj
 have hjl := (List.getElem?_eq_some_iff.1 hj).1
 rw [← hl, List.getElem?_take, if_pos hjl, List.getElem?_drop] at hj
 simp only [Blk.holds] at h
 simp [World.cell?, h, hj]
theorem ldN_row {n off m : Nat} {cs : List Value} {t : TypeId} {K : List Value → Prop} [h : Look M n (.row cs t)] (l : List Value) (hl : (cs.drop off).take l.length = l) (hm : l.length = m) (hk : K l) : LdN M n off m K :=
 ⟨fun A w0 w st => ⟨l, hm, row_at (st.has _ h.mem) hl, hk⟩⟩
theorem qld1_row {n off : Nat} {cs : List Value} {t : TypeId} {K : Value → Prop} [h : Look M n (.row cs t)] {v : Value} (hv : cs[off]? = some v) (hk : K v) : QLd1 M n off K :=
 ⟨v, fun A w0 w st => by have := st.has _ h.mem; simp only [Blk.holds] at this; simp [World.cell?, this, hv], hk⟩
theorem st_rowN {n off : Nat} {cs vs : List Value} {t : TypeId} {f : Blk → List Blk} {K : List Blk → Prop} [z : Zip M n (.row cs t) f] (h1 : ∀ u ∈ vs, u.oneCell' = true)
 (hl : off + vs.length ≤ cs.length) (hk : K (f ⟨n, .row (cs.take off ++ vs ++ cs.drop (off + vs.length)) t⟩)) : StN P M n off vs K := by
 refine ⟨fun A w0 w st => ?_⟩
 have hu := z.upd (.row (cs.take off ++ vs ++ cs.drop (off + vs.length)) t)
 obtain ⟨L, R, e1, e2⟩ := hu.split
 have hb : (⟨n, .row cs t⟩ : Blk).holds w := st.has _ (by rw [e1]; simp)
 have hr := run_storeCells_at P n off t vs 0 cs.toArray w hb (by simp; omega) h1
 refine ⟨_, _, hr, ?_, hk⟩
 simp only [Nat.add_zero]
 exact setRow_st st hu (.inr rfl) (.inr rfl)
end
end Ev
namespace Ev
open Go Go.MapKept
class TakeC (M : List Blk) (n : Nat) (o : outParam BO) (R : outParam (List Blk)) : Prop where
 out : Take M ⟨n, o⟩ R
instance (priority := high) TakeC.here {M : List Blk} {n : Nat} {o : BO} : TakeC (⟨n, o⟩ :: M) n o M := ⟨.here⟩
instance (priority := low) TakeC.there {M R : List Blk} {n : Nat} {o : BO} {c : Blk} [h : TakeC M n o R] : TakeC (c :: M) n o (c :: R) := ⟨.there h.out⟩
theorem takeC {M R : List Blk} {n : Nat} {o : BO} [h : TakeC M n o R] : Take M ⟨n, o⟩ R := h.out
class Tail (M S : List Blk) (L : outParam (List Blk)) : Prop where
 out : M = L ++ S
instance (priority := high) Tail.here {S : List Blk} : Tail S S [] := ⟨rfl⟩
instance (priority := low) Tail.there {M S L : List Blk} {b : Blk} [h : Tail M S L] : Tail (b :: M) S (b :: L) := ⟨by rw [h.out]; rfl⟩
theorem Fnc_drop {P : Program} {f : FuncId} {args : List Value} {A : List Blk} {Q Q' : Ending → List Blk → Prop} (h : Fnc P f args A Q) (hq : ∀ e A', Q e A' → Fin A' (Q' e)) : Fnc P f args A Q' := by
 have := h.out
 delta Fnc
 exact ⟨this.1, fun w hm => (this.2 w hm).mono fun e w' ⟨A', s1, hk⟩ => fin_out s1 (hq e A' hk)⟩
theorem Fnc_mono {P : Program} {f : FuncId} {args : List Value} {A : List Blk} {Q Q' : Ending → List Blk → Prop} (h : Fnc P f args A Q) (hq : ∀ e A', Q e A' → Q' e A') : Fnc P f args A Q' :=
 Fnc_drop h fun e A' hk => fin_all (hq e A' hk)
section
variable {P : Program} {M : List Blk}
end
theorem St_swap {A L R : List Blk} {w0 w : World} {n : Nat} {o o' : BO} (h : St A w0 w (L ++ ⟨n, o⟩ :: R)) (hr : (⟨n, o⟩ : Blk).ro = (⟨n, o'⟩ : Blk).ro) (hh : (⟨n, o⟩ : Blk).holds w → (⟨n, o'⟩ : Blk).holds w) : St A w0 w (L ++ ⟨n, o'⟩ :: R) := by
 refine ⟨h.os, h.tape, h.output, h.size, h.keep, fun b hb => ?_, fun b hb => ?_, ?_⟩
 · rcases List.mem_append.1 hb with hb | hb
   · exact h.has b (List.mem_append.2 (.inl hb))
   · rcases List.mem_cons.1 hb with rfl | hb
     · exact hh (h.has _ (List.mem_append.2 (.inr List.mem_cons_self)))
     · exact h.has b (List.mem_append.2 (.inr (List.mem_cons_of_mem _ hb)))
 · rcases List.mem_append.1 hb with hb | hb
   · exact h.own b (List.mem_append.2 (.inl hb))
   · rcases List.mem_cons.1 hb with rfl | hb
     · have := h.own ⟨n, o⟩ (List.mem_append.2 (.inr List.mem_cons_self))
       rw [hr] at this; exact this
     · exact h.own b (List.mem_append.2 (.inr (List.mem_cons_of_mem _ hb)))
 · have hp := List.pairwise_append.1 h.apart
   have hc := List.pairwise_cons.1 hp.2.1
   refine List.pairwise_append.2 ⟨hp.1, List.pairwise_cons.2 ⟨fun b hb e => ?_, hc.2⟩, fun a ha b hb => ?_⟩
   · have := hc.1 b hb e; rw [hr] at this; exact this
   · rcases List.mem_cons.1 hb with rfl | hb
     · intro e; have := hp.2.2 a ha ⟨n, o⟩ List.mem_cons_self e; rw [hr] at this; exact this
     · exact hp.2.2 a ha b (List.mem_cons_of_mem _ hb)
theorem to_row (n : Nat) {P : Program} {c : Code} {fr : List Value} {M : List Blk} {K : Ks} {cs cs' : List Value} {t : TypeId} {f : Blk → List Blk} [z : Zip M n (.cells cs t) f] (he : cs = cs') (h : CodeW P c fr (f ⟨n, .row cs' t⟩) K) : CodeW P c fr M K := by
 subst he
 obtain ⟨L, R, e1, e2⟩ := z.out
 rw [e2] at h
 subst e1
 exact ⟨fun A w0 w ds st => h.out A w0 w ds (St_swap st rfl (fun hh => hh))⟩
structure KeyK (P : Program) (kt : TypeId) (K : Type) [DecidableEq K] (e : K → Value) where
 kind : TypeDesc
 und : P.underlying kt = some kind
 same : ∀ a b, Instr.sameNow kind (e a) (e b) = some (decide (a = b))
 bits : ∀ a, Instr.sameBits 10000 (e a) (e a) = true
 chk : ∀ em a w, (Instr.checkKey em 10000 kt (e a)).run P w = .ok () w
def ents {K : Type} (e : K → Value) : List (K × Value) → Nat → List MapEntry
 | [], _ => []
 | (k, v) :: t, n => { key := e k, val := v, born := n } :: ents e t (n + 1)
def mapK {K : Type} (e : K → Value) (l : List (K × Value)) : Obj := .map (ents e l 0).toArray l.length
section
variable {K : Type} [DecidableEq K] {e : K → Value}
def findIx (k : K) : List (K × Value) → Nat → Option (Nat × Value)
 | [], _ => none
 | (a, v) :: t, i => if k = a then some (i, v) else findIx k t (i + 1)
def getM (l : List (K × Value)) (k : K) : Option Value := (findIx k l 0).map (·.2)
def setM (l : List (K × Value)) (k : K) (v : Value) : List (K × Value) :=
 match l with
 | [] => [(k, v)]
 | (a, u) :: t => if k = a then (a, v) :: t else (a, u) :: setM t k v
omit [DecidableEq K] in
theorem ents_len : ∀ (l : List (K × Value)) (n : Nat), (ents e l n).length = l.length
 | [], _ => rfl
 | _ :: t, n => by show (ents e t (n + 1)).length + 1 = _; rw [ents_len t]; rfl
theorem findNow_ents {P : Program} {kt : TypeId} (hk : KeyK P kt K e) (k : K) : ∀ (l : List (K × Value)) (n i : Nat), Instr.findNow hk.kind (e k) (ents e l n) i = some (findIx k l i)
 | [], _, _ => rfl
 | (a, v) :: t, n, i => by
   show (match Instr.sameNow hk.kind (e k) (e a) with
    | some true => some (some (i, v))
    | some false => Instr.findNow hk.kind (e k) (ents e t (n + 1)) (i + 1)
    | none => none) = some (if k = a then some (i, v) else findIx k t (i + 1))
   rw [hk.same]
   by_cases h : k = a
   · rw [if_pos h, decide_eq_true h]
   · rw [if_neg h, decide_eq_false h]; exact findNow_ents hk k t (n + 1) (i + 1)
theorem findIx_some {k : K} : ∀ {l : List (K × Value)} {i j : Nat} {v : Value}, findIx k l i = some (j, v) → i ≤ j ∧ l[j - i]? = some (k, v) ∧ ∀ (n : Nat) (u : Value), (ents e (setM l k u) n) = (ents e l n).modify (j - i) fun x => { x with key := e k, val := u }
 | [], i, j, v, h => by cases h
 | (a, w) :: t, i, j, v, h => by
   unfold findIx at h
   by_cases hk : k = a
   · rw [if_pos hk] at h
     obtain ⟨rfl, rfl⟩ := Prod.mk.inj (Option.some.inj h)
     subst hk
     refine ⟨Nat.le_refl _, by simp, fun n u => ?_⟩
     unfold setM
     rw [if_pos rfl, Nat.sub_self]
     simp [ents, List.modify]
   · rw [if_neg hk] at h
     obtain ⟨h1, h2, h3⟩ := findIx_some h
     have e1 : j - i = (j - (i + 1)) + 1 := by omega
     refine ⟨by omega, by rw [e1, List.getElem?_cons_succ]; exact h2, fun n u => ?_⟩
     unfold setM
     rw [if_neg hk, e1]
     simp only [ents, List.modify_succ_cons]
     rw [h3]
theorem findIx_none {k : K} : ∀ {l : List (K × Value)} {i : Nat}, findIx k l i = none → ∀ (u : Value), setM l k u = l ++ [(k, u)]
 | [], i, h, u => rfl
 | (a, w) :: t, i, h, u => by
   unfold findIx at h
   by_cases hk : k = a
   · rw [if_pos hk] at h; cases h
   · rw [if_neg hk] at h
     unfold setM
     rw [if_neg hk, findIx_none h u]; rfl
omit [DecidableEq K] in
theorem ents_app : ∀ (l m : List (K × Value)) (n : Nat), ents e (l ++ m) n = ents e l n ++ ents e m (n + l.length)
 | [], m, n => by simp [ents]
 | (a, u) :: t, m, n => by
   show _ :: ents e (t ++ m) (n + 1) = _ :: (ents e t (n + 1) ++ ents e m (n + (t.length + 1)))
   rw [ents_app t m (n + 1)]
   congr 3
   omega
theorem setM_len_some {k : K} : ∀ {l : List (K × Value)} {i j : Nat} {v : Value}, findIx k l i = some (j, v) → ∀ u, (setM l k u).length = l.length
 | [], i, j, v, h, u => by cases h
 | (a, w) :: t, i, j, v, h, u => by
   unfold findIx at h
   unfold setM
   by_cases hk : k = a
   · rw [if_pos hk]; rfl
   · rw [if_neg hk] at h ⊢
     simp only [List.length_cons]
     rw [setM_len_some h u]
end
theorem obj_has {A M : List Blk} {w0 w : World} {r : Nat} {o : Obj} (st : St A w0 w M) (h : Look M r (.obj o)) : w.heap[r]? = some o := (st.has _ h.mem).1
theorem obj_set {A M M' : List Blk} {w0 w : World} {n : Nat} {o o' : Obj} (st : St A w0 w M) (hu : Upd M n (.obj o) (.obj o') M') (h' : Obj.isCells o' = false) : St A w0 { w with heap := w.heap.setIfInBounds n o' } M' := by
 obtain ⟨L, R, e1, e2⟩ := hu.split
 have hb : (⟨n, .obj o⟩ : Blk).holds w := st.has _ (by rw [e1]; simp)
 have hlt := hb.lt
 refine st.set hu rfl rfl rfl rfl (by simp) (fun k hk _ => ?_) ⟨?_, h'⟩ rfl
 · show (w.heap.setIfInBounds n o')[k]? = _
   rw [Array.getElem?_setIfInBounds, if_neg (Ne.symm hk)]
 · show (w.heap.setIfInBounds n o')[n]? = _
   rw [Array.getElem?_setIfInBounds, if_pos rfl, if_pos hlt]
theorem zero_run {P : Program} {t : TypeId} {i : TypeInfo} {z : Value} (hi : P.info? t = some i) (hz : i.zero = some z) (w : World) : (zeroValue t).run P w = .ok z w := by
 simp [zeroValue, typeInfo, hi, hz]
section
variable {P : Program} {M : List Blk} {k : Kv} {pan : Kp} {K : Type} [DecidableEq K] {e : K → Value} {mt kt et : TypeId}
theorem map_look {l : List (K × Value)} {r : Nat} {x : K} {ok : Bool} {i : TypeInfo} {z : Value} (hk : KeyK P kt K e) (ht : P.underlying mt = some (.map kt et)) (hi : P.info? et = some i) (hz : i.zero = some z) [h : Look M r (.obj (mapK e l))]
 (hn : (match getM l x with | some v => k (if ok then .tuple #[v, .bool true] else v) M | none => k (if ok then .tuple #[z, .bool false] else z) M)) : Runs P (VS (Instr.lookup mt (.map (some r)) (e x) ok)) M k pan := by
 refine ⟨fun A w0 w st => ?_⟩
 have hb := obj_has st h
 have hf := run_findKey (P := P) (w := w) (kt := kt) hk.und (findNow_ents hk x l 0 0)
 unfold mapK at hb
 unfold getM at hn
 cases hx : findIx x l 0 with
 | none =>
   rw [hx] at hf hn
   have : (VS (Instr.lookup mt (.map (some r)) (e x) ok)).run P w = .ok (.value (if ok then .tuple #[z, .bool false] else z)) w := by
    simp only [VS, Instr.lookup, Sem.run_bind, run_underlying ht, Result.andThen_ok, MapKept.run_getObj_map hb, Sem.run_pure, hk.chk, hf, zero_run hi hz]
   rw [this]
   exact ⟨M, st, hn⟩
 | some p =>
   rw [hx] at hf hn
   have : (VS (Instr.lookup mt (.map (some r)) (e x) ok)).run P w = .ok (.value (if ok then .tuple #[p.2, .bool true] else p.2)) w := by
    simp only [VS, Instr.lookup, Sem.run_bind, run_underlying ht, Result.andThen_ok, MapKept.run_getObj_map hb, Sem.run_pure, hk.chk, hf]
   rw [this]
   exact ⟨M, st, hn⟩
theorem map_put {l : List (K × Value)} {r : Nat} {x : K} {v : Value} {f : Blk → List Blk} (hk : KeyK P kt K e) (ht : P.underlying mt = some (.map kt et)) [z : Zip M r (.obj (mapK e l)) f]
 (hn : k undef (f ⟨r, .obj (mapK e (setM l x v))⟩)) : Runs P (US (Instr.mapUpdate mt (.map (some r)) (e x) v)) M k pan := by
 refine ⟨fun A w0 w st => ?_⟩
 have hu := z.upd (.obj (mapK e (setM l x v)))
 obtain ⟨L, R, e1, e2⟩ := hu.split
 have hb : w.heap[r]? = some (mapK e l) := (st.has ⟨r, .obj (mapK e l)⟩ (by rw [e1]; simp)).1
 have hf := run_findKey (P := P) (w := w) (kt := kt) hk.und (findNow_ents hk x l 0 0)
 unfold mapK at hb
 have hnew : (US (Instr.mapUpdate mt (.map (some r)) (e x) v)).run P w = .ok .skip { w with heap := w.heap.setIfInBounds r (mapK e (setM l x v)) } := by
  cases hx : findIx x l 0 with
  | none =>
    rw [hx] at hf
    have e3 := findIx_none hx v
    simp only [US, Instr.mapUpdate, Sem.run_bind, run_underlying ht, Result.andThen_ok, MapKept.run_getObj_map hb, hk.chk, hf, MapKept.run_setObj_map _ hb, Sem.run_pure]
    unfold mapK
    rw [e3, ents_app]
    simp [ents]
  | some p =>
    rw [hx] at hf
    obtain ⟨j, u⟩ := p
    obtain ⟨h1, h2, h3⟩ := findIx_some (e := e) hx
    have e4 := setM_len_some hx v
    have hkey : (((ents e l 0).toArray[j]?).map (·.key)).getD (e x) = e x := by
     rw [List.getElem?_toArray]
     have : ∀ (l : List (K × Value)) (n j : Nat), l[j]? = some (x, u) → (ents e l n)[j]? = some { key := e x, val := u, born := n + j } := by
      intro l
      induction l with
      | nil => intro n j h; cases h
      | cons q t ih =>
        intro n j h
        cases j with
        | zero => obtain rfl : q = (x, u) := by simpa using h
                  rfl
        | succ j => rw [List.getElem?_cons_succ] at h; show (ents e t (n + 1))[j]? = _; rw [ih (n + 1) j h]; congr 2; omega
     rw [this l 0 j (by simpa using h2)]
     rfl
    simp only [US, Instr.mapUpdate, Sem.run_bind, run_underlying ht, Result.andThen_ok, MapKept.run_getObj_map hb, hk.chk, hf, hkey, Instr.keyThatStays, hk.bits, if_true, MapKept.run_setObj_map _ hb, Sem.run_pure]
    unfold mapK
    rw [e4, h3, Nat.sub_zero]
    congr 4
    simp [List.modify_toArray]
 rw [hnew]
 exact ⟨_, obj_set st hu rfl, hn⟩
theorem map_make {t : TypeId} (e : K → Value) (hn : ∀ r, k (.map (some r)) (⟨r, .obj (mapK e [])⟩ :: M)) : Runs P (VS (Instr.makeMap t none)) M k pan := by
 refine ⟨fun A w0 w st => ?_⟩
 have : (VS (Instr.makeMap t none)).run P w = .ok (.value (.map (some w.heap.size))) { w with heap := w.heap.push (.map #[] 0) } := by
  simp [VS, Instr.makeMap]
 rw [this]
 exact ⟨_, st.new (.map #[] 0) (.obj (mapK e [])) ⟨by simp [mapK, ents], rfl⟩, hn _⟩
theorem map_len {l : List (K × Value)} {r : Nat} {ty : TypeId} (ht : P.underlying mt = some (.map kt et)) [h : Look M r (.obj (mapK e l))] (hn : k (.int .i64 l.length) M) : Runs P (VS (Builtin.len_ #[mt] ty #[.map (some r)])) M k pan := by
 refine ⟨fun A w0 w st => ?_⟩
 have hb := obj_has st h
 unfold mapK at hb
 have : (VS (Builtin.len_ #[mt] ty #[.map (some r)])).run P w = .ok (.value (.int .i64 l.length)) w := by
  simp [VS, Builtin.len_, run_underlying ht, MapKept.run_getObj_map hb, goInt, ents_len]
 rw [this]
 exact ⟨M, st, hn⟩
end
def kI (z : Int) : Value := .int .i64 z
def kS (s : ByteArray) : Value := .string s
theorem bytes_eq (a b : ByteArray) : (a == b) = decide (a = b) := by
 by_cases h : a = b
 · subst h; rw [decide_eq_true rfl]; exact (bytes_beq a a).2 rfl
 · rw [decide_eq_false h]
   cases hc : (a == b) with
   | false => rfl
   | true => exact absurd ((bytes_beq a b).1 hc) h
def keyI {P : Program} {kt : TypeId} (h : P.underlying kt = some (.int .i64)) : KeyK P kt Int kI :=
 ⟨.int .i64, h, fun a b => by by_cases q : a = b <;> simp [Instr.sameNow, kI, q], fun a => by simp [Instr.sameBits, kI], fun em a w => run_checkKey h (by simp [IsKey, kI]) em 9999⟩
def keyS {P : Program} {kt : TypeId} (h : P.underlying kt = some .string) : KeyK P kt ByteArray kS :=
 ⟨.string, h, fun a b => by show some (a == b) = _; rw [bytes_eq], fun a => by show (a == a) = true; rw [bytes_eq, decide_eq_true rfl], fun em a w => run_checkKey h (by simp [IsKey, kS]) em 9999⟩
end Ev
namespace Ev
open Go
structure TakeG (M G R : List Blk) : Prop where
 perm : M.Perm (G ++ R)
class Grp {α : Type} (mk : α → List Blk) (M : List Blk) (x : outParam α) (R : outParam (List Blk)) : Prop where
 out : M.Perm (mk x ++ R)
section
variable {α : Type} {mk : α → List Blk} {x : α} {M R S : List Blk}
instance (priority := 2000) Grp.here : Grp mk (mk x ++ S) x S := ⟨.refl _⟩
instance (priority := 1900) Grp.last : Grp mk (mk x) x [] := ⟨by rw [List.append_nil]⟩
instance (priority := 1800) Grp.assoc {A B C : List Blk} [h : Grp mk (A ++ (B ++ C)) x R] : Grp mk ((A ++ B) ++ C) x R := ⟨by rw [List.append_assoc]; exact h.out⟩
instance (priority := 1800) Grp.cons' {b : Blk} {A C : List Blk} [h : Grp mk (b :: (A ++ C)) x R] : Grp mk ((b :: A) ++ C) x R := ⟨h.out⟩
instance (priority := 1800) Grp.nil' {C : List Blk} [h : Grp mk C x R] : Grp mk ([] ++ C) x R := ⟨h.out⟩
instance (priority := 100) Grp.there {b : Blk} [h : Grp mk M x R] : Grp mk (b :: M) x (b :: R) := ⟨(h.out.cons b).trans List.perm_middle.symm⟩
instance (priority := 90) Grp.app {K : List Blk} [h : Grp mk M x R] : Grp mk (K ++ M) x (K ++ R) :=
 ⟨(List.Perm.append_left K h.out).trans (by rw [← List.append_assoc, ← List.append_assoc]; exact List.perm_append_comm.append_right R)⟩
theorem takeG [h : Grp mk M x R] : TakeG M (mk x) R := ⟨h.out⟩
end
section
variable {M R : List Blk} {n : Nat} {o : BO} {f : Blk → List Blk}
instance (priority := 1800) Look.assoc {A B C : List Blk} [h : Look (A ++ (B ++ C)) n o] : Look ((A ++ B) ++ C) n o := ⟨by rw [List.append_assoc]; exact h.mem⟩
instance (priority := 1800) Look.cons' {b : Blk} {A C : List Blk} [h : Look (b :: (A ++ C)) n o] : Look ((b :: A) ++ C) n o := ⟨h.mem⟩
instance (priority := 1800) Look.nil' {C : List Blk} [h : Look C n o] : Look ([] ++ C) n o := ⟨h.mem⟩
instance (priority := 1800) Zip.assoc {A B C : List Blk} [h : Zip (A ++ (B ++ C)) n o f] : Zip ((A ++ B) ++ C) n o f := ⟨by rw [List.append_assoc]; exact h.out⟩
instance (priority := 1800) Zip.cons' {b : Blk} {A C : List Blk} [h : Zip (b :: (A ++ C)) n o f] : Zip ((b :: A) ++ C) n o f := ⟨h.out⟩
instance (priority := 1800) Zip.nil' {C : List Blk} [h : Zip C n o f] : Zip ([] ++ C) n o f := ⟨h.out⟩
theorem Take.app {K M R : List Blk} {b : Blk} (h : Take M b R) : Take (K ++ M) b (K ++ R) := by
 induction K with
 | nil => exact h
 | cons c K ih => exact .there ih
instance (priority := 1800) TakeC.assoc {A B C : List Blk} [h : TakeC (A ++ (B ++ C)) n o R] : TakeC ((A ++ B) ++ C) n o R := ⟨by rw [List.append_assoc]; exact h.out⟩
instance (priority := 1800) TakeC.cons' {b : Blk} {A C : List Blk} [h : TakeC (b :: (A ++ C)) n o R] : TakeC ((b :: A) ++ C) n o R := ⟨h.out⟩
instance (priority := 1800) TakeC.nil' {C : List Blk} [h : TakeC C n o R] : TakeC ([] ++ C) n o R := ⟨h.out⟩
instance (priority := 90) TakeC.app {K : List Blk} [h : TakeC M n o R] : TakeC (K ++ M) n o (K ++ R) := ⟨h.out.app⟩
end
class GrpE (M G : List Blk) (R : outParam (List Blk)) : Prop where
 out : M.Perm (G ++ R)
section
variable {M G R S : List Blk}
instance (priority := 2000) GrpE.here : GrpE (G ++ S) G S := ⟨.refl _⟩
instance (priority := 1900) GrpE.last : GrpE G G [] := ⟨by rw [List.append_nil]⟩
instance (priority := 1800) GrpE.assoc {A B C : List Blk} [h : GrpE (A ++ (B ++ C)) G R] : GrpE ((A ++ B) ++ C) G R := ⟨by rw [List.append_assoc]; exact h.out⟩
instance (priority := 1800) GrpE.cons' {b : Blk} {A C : List Blk} [h : GrpE (b :: (A ++ C)) G R] : GrpE ((b :: A) ++ C) G R := ⟨h.out⟩
instance (priority := 1800) GrpE.nil' {C : List Blk} [h : GrpE C G R] : GrpE ([] ++ C) G R := ⟨h.out⟩
instance (priority := 100) GrpE.there {b : Blk} [h : GrpE M G R] : GrpE (b :: M) G (b :: R) := ⟨(h.out.cons b).trans List.perm_middle.symm⟩
instance (priority := 90) GrpE.app {K : List Blk} [h : GrpE M G R] : GrpE (K ++ M) G (K ++ R) :=
 ⟨(List.Perm.append_left K h.out).trans (by rw [← List.append_assoc, ← List.append_assoc]; exact List.perm_append_comm.append_right R)⟩
theorem takeE [h : GrpE M G R] : TakeG M G R := ⟨h.out⟩
end
inductive TakesG : List Blk → List Blk → List Blk → Prop where
 | nil {M} : TakesG M [] M
 | blk {M b M1 A R} (h : Take M b M1) (hs : TakesG M1 A R) : TakesG M (b :: A) R
 | grp {M G M1 A R} (h : TakeG M G M1) (hs : TakesG M1 A R) : TakesG M (G ++ A) R
 | one {M G R} (h : TakeG M G R) : TakesG M G R
theorem TakesG.perm {M A R : List Blk} (h : TakesG M A R) : M.Perm (A ++ R) := by
 induction h with
 | nil => exact .refl _
 | blk h hs ih => exact h.perm.trans (ih.cons _)
 | grp h hs ih => exact h.perm.trans (by rw [List.append_assoc]; exact List.Perm.append_left _ ih)
 | one h => exact h.perm
theorem takesG_all {M : List Blk} : TakesG M M [] := .one ⟨by rw [List.append_nil]⟩
section
variable {P : Program} {f : FuncId} {args : List Value} {A A' M R : List Blk} {k : Kv} {pan : Kp}
theorem call_g {Q : Ending → List Blk → Prop} (h : Fnc P f args A Q) (ht : TakesG M A R)
 (hk : ∀ e A', Q e A' → match e with | .returned v => k v (A' ++ R) | .panicked ch => pan ch (A' ++ R) | .outgrown => False) : Cl P f args M k pan := by
 refine ⟨h.out.1, fun B w0 w st => ?_⟩
 have st' := st.perm ht.perm
 refine (h.out.2 w st'.left.mem).mono fun e w' ⟨A', s1, hq⟩ => ?_
 have := hk e A' hq
 cases e with
 | returned v => exact ⟨_, st'.call s1, this⟩
 | panicked ch => exact ⟨_, st'.call s1, this⟩
 | outgrown => exact this.elim
theorem call_gr {v : Value} (h : Fnc P f args A (Ret v A')) (ht : TakesG M A R) (hk : k v (A' ++ R)) : Cl P f args M k pan :=
 call_g h ht fun e A'' ⟨h1, h2⟩ => by subst h1; subst h2; exact hk
def May (o : Option Value) (v : Value) (A' : List Blk) : Ending → List Blk → Prop := fun e A => A = A' ∧ match o with | none => e = .returned v | some c => e = .panicked [{ v := c, recovered := false }]
theorem fin_g {Q : List Blk → Prop} (ht : TakesG M A R) (h : Q A) : Fin M Q := ⟨⟨A, R, ht.perm, h⟩⟩
theorem Fnc_perm {Q : Ending → List Blk → Prop} {B : List Blk} (h : Fnc P f args A Q) (hp : A.Perm B) : Fnc P f args B Q := by
 have := h.out
 delta Fnc
 refine ⟨this.1, fun w hm => ?_⟩
 have st := (St.init hm).perm hp.symm
 refine (this.2 w st.mem).mono fun e w' ⟨A', s1, hq⟩ => ⟨A', ?_, hq⟩
 have s2 : St B w w (A ++ []) := by rw [List.append_nil]; exact st
 have s3 := s2.call (A1 := A) s1
 rw [List.append_nil] at s3
 exact s3
theorem Fnc_more {Q : Ending → List Blk → Prop} {B : List Blk} (h : Fnc P f args A Q) : Fnc P f args (A ++ B) fun e M' => ∃ A', M' = A' ++ B ∧ Q e A' := by
 have := h.out
 delta Fnc
 refine ⟨this.1, fun w hm => ?_⟩
 have st := St.init hm
 refine (this.2 w st.left.mem).mono fun e w' ⟨A', s1, hq⟩ => ⟨A' ++ B, st.call s1, A', rfl, hq⟩
end
end Ev
end Go.Proofs.YtkjamonkohpcnaaGreat
