/- Texts of this proof, merged. -/
import Derived.Test.YtkjamonkohpcnaaGreatAk5
import Derived.Shelf.SlSortCmp.WholeK
import Derived.Shelf.SlicesG.Cmp
import Derived.WalkKit
import Derived.Test.YtkjamonkohpcnaaGreatProg
import Derived.Test.YtkjamonkohpcnaaGreatAk4
import Derived.KernelRfl
set_option linter.unusedVariables false
set_option linter.unusedSimpArgs false
set_option linter.unusedSectionVars false
set_option maxRecDepth 100000
set_option maxHeartbeats 16000000
namespace Go.Proofs.YtkjamonkohpcnaaGreat
namespace Ev
open Go
noncomputable def stepP (P : Program) (ops : List Oper) (RO : List Blk) (i : Nat) (nx : List Value → List Blk → Ks → Prop) (fr : List Value) (M : List Blk) (K : Ks) : Prop :=
 match ops[i]? with
 | none => False
 | some o => gdK ops fr o.guard (opK (std P) P fr M o (fun v M' => Kept RO M' (putK o.dst fr v fun fr' => nx fr' M' K)) (fun ch M' => K (.panic ch) fr M')) (putK o.dst fr undef fun fr' => nx fr' M K)
noncomputable def tp (P : Program) (ops : List Oper) (RO : List Blk) (sch : Sch) : List Value → List Blk → Ks → Prop :=
 Sch.rec (fun fr M K => K .normal fr M)
  (fun i _ ih fr M K => match ops[i]? with
    | none => False
    | some o => gdK ops fr o.guard (opK (fl P RO) P fr M o (fun v M' => putK o.dst fr v fun fr' => ih fr' M' K) (fun _ _ => False)) (putK o.dst fr undef fun fr' => ih fr' M K))
  (fun i _ ih fr M K => stepP P ops RO i ih fr M K)
  (fun i j _ _ ih1 ih2 fr M K => stepP P ops RO i ih1 fr M K ∧ stepP P ops RO j ih2 fr M K) sch
abbrev TP (A : List Blk) (w0 : World) (ds : List Deferred) (K : Ks) : Exit → Act → World → Prop := fun e a w => ∃ fr' M', a = ⟨fr'.toArray, ds⟩ ∧ St A w0 w M' ∧ K e fr' M'
def Flat (K : Ks) : Prop := ∀ ch fr fr' M, K (.panic ch) fr M → K (.panic ch) fr' M
section
variable {P : Program} {ops : List Oper} {RO : List Blk} {K : Ks} {A : List Blk} {w0 : World} {ds : List Deferred}
theorem stepP_sound {i : Nat} {nx : List Value → List Blk → Ks → Prop} {R : Act → World → Prop} (hn : ∀ fr M, nx fr M K → ∀ w, St A w0 w M → Mem w RO → R ⟨fr.toArray, ds⟩ w) {fr : List Value} {M : List Blk} (h : stepP P ops RO i nx fr M K) {w : World} (st : St A w0 w M) (hro : Mem w RO) :
 wpOp P ops.toArray (TP A w0 ds K) i (fun a w => Mem w RO ∧ R a w) ⟨fr.toArray, ds⟩ w := by
 unfold stepP at h
 cases ho : ops[i]? with
 | none => rw [ho] at h; exact h.elim
 | some o =>
   rw [ho] at h
   simp only at h
   have ho' : ops.toArray[i]? = some o := by simpa using ho
   unfold wpOp
   rw [ho']
   simp only
   rcases gdK_out h with ⟨hw, h⟩ | ⟨hw, h⟩
   · rw [if_pos hw]
     have hr : Runs P (execOp (Act.eval ⟨fr.toArray, []⟩) o) M _ _ := opK_sound (std_sound P) h
     rw [← eval_nil' fr ds] at hr
     refine .inl (wp_of_runs hr st (fun v w' M' st' hk => ?_) fun ch w' M' st' hk => ⟨fr, M', rfl, st', hk⟩)
     obtain ⟨h1, h2⟩ := hk.out
     obtain ⟨fr', e, hk'⟩ := putK_out (ds := ds) h2
     rw [e]
     exact ⟨h1 _ _ _ st', hn fr' M' hk' w' st' (h1 _ _ _ st')⟩
   · rw [if_neg (by simp [hw])]
     obtain ⟨fr', e, hk'⟩ := putK_out (ds := ds) h
     rw [e]
     exact ⟨hro, hn fr' M hk' w st hro⟩
theorem tp_flat (hK : Flat K) : ∀ (c : List PanicEntry) (a : Act) (w : World) (dst : Option Tmp) (v : Value), TP A w0 ds K (.panic c) (a.put dst v) w → TP A w0 ds K (.panic c) a w := by
 intro c a w dst v ⟨fr', M', e, st, hk⟩
 refine ⟨a.tmps.toList, M', ?_, st, hK _ _ _ _ hk⟩
 obtain ⟨tm, dd⟩ := a
 have : dd = ds := by
  cases dst with
  | none => simp [Act.put] at e; exact e.2
  | some d => simp [Act.put] at e; exact e.2
 subst this
 simp
theorem tp_sound (hK : Flat K) (hs : Region.noSelect ops.toArray = true) : ∀ (sch : Sch) (n : Nat) (listed : Array Bool) (fr : List Value) (M : List Blk), treeB ops.toArray sch listed n = true → tp P ops RO sch fr M K →
 ∀ w, St A w0 w M → Mem w RO → wpAnyH P .any ops.toArray (TP A w0 ds K) (fun w => Mem w RO) n listed ⟨fr.toArray, ds⟩ w
 | .nil, n, listed, fr, M, hb, h, w, st, hro => by
   unfold treeB at hb
   simp only [Bool.and_eq_true, decide_eq_true_eq, List.isEmpty_iff] at hb
   exact wpAnyH_done hb.1 ⟨fr, M, rfl, st, h⟩ _
 | .take i s, 0, listed, fr, M, hb, h, w, st, hro => by cases hb
 | .only i s, 0, listed, fr, M, hb, h, w, st, hro => by cases hb
 | .two i j s t, 0, listed, fr, M, hb, h, w, st, hro => by cases hb
 | .take i s, n + 1, listed, fr, M, hb, h, w, st, hro => by
   unfold treeB at hb
   simp only [Bool.and_eq_true] at hb
   obtain ⟨hb1, hb2, hb3⟩ := hb
   have h : (match ops[i]? with
    | none => False
    | some o => gdK ops fr o.guard (opK (fl P RO) P fr M o (fun v M' => putK o.dst fr v fun fr' => tp P ops RO s fr' M' K) (fun _ _ => False)) (putK o.dst fr undef fun fr' => tp P ops RO s fr' M K)) := h
   cases ho : ops[i]? with
   | none => rw [ho] at h; exact h.elim
   | some o =>
     rw [ho] at h
     simp only at h
     have ho' : ops.toArray[i]? = some o := by simpa using ho
     have take : ∀ v, YieldsIf P ops.toArray (fun w => Mem w RO) o v ⟨fr.toArray, ds⟩ → putK o.dst fr v (fun fr' => tp P ops RO s fr' M K) →
      wpAnyH P .any ops.toArray (TP A w0 ds K) (fun w => Mem w RO) (n + 1) listed ⟨fr.toArray, ds⟩ w := by
      intro v hy hk
      refine wpAnyH_take ho' hs hb1 hb2 (fun c a w hq => tp_flat hK c a w _ _ hq) hy hro ?_
      obtain ⟨fr', e, hk'⟩ := putK_out (ds := ds) hk
      rw [e]
      exact tp_sound hK hs s n _ fr' M hb3 hk' w st hro
     rcases gdK_out h with ⟨hw, h⟩ | ⟨hw, h⟩
     · have hr : FRuns P RO (execOp (Act.eval ⟨fr.toArray, []⟩) o) M _ := opK_sound (fl_sound P RO) h
       rw [← eval_nil' fr ds] at hr
       obtain ⟨v, h1, h2⟩ := hr.out
       exact take v (.inl ⟨hw, h1⟩) h2
     · exact take undef (.inr ⟨by simpa using hw, rfl⟩) h
 | .only i s, n + 1, listed, fr, M, hb, h, w, st, hro => by
   unfold treeB at hb
   simp only [Bool.and_eq_true, decide_eq_true_eq] at hb
   refine wpAnyH_all hb.1 (by simp) fun j hj => ?_
   simp only [List.mem_singleton] at hj
   subst hj
   exact stepP_sound (R := wpAnyH P .any ops.toArray (TP A w0 ds K) (fun w => Mem w RO) n _) (nx := tp P ops RO s) (fun fr M hk w st hro => tp_sound hK hs s n _ fr M hb.2 hk w st hro) h st hro
 | .two i j s t, n + 1, listed, fr, M, hb, h, w, st, hro => by
   unfold treeB at hb
   simp only [Bool.and_eq_true, decide_eq_true_eq] at hb
   obtain ⟨hb1, hb2, hb3⟩ := hb
   have h : stepP P ops RO i (tp P ops RO s) fr M K ∧ stepP P ops RO j (tp P ops RO t) fr M K := h
   refine wpAnyH_all hb1 (by simp) fun q hq => ?_
   simp only [List.mem_cons, List.not_mem_nil, or_false] at hq
   rcases hq with rfl | rfl
   · exact stepP_sound (R := wpAnyH P .any ops.toArray (TP A w0 ds K) (fun w => Mem w RO) n _) (nx := tp P ops RO s) (fun fr M hk w st hro => tp_sound hK hs s n _ fr M hb2 hk w st hro) h.1 st hro
   · exact stepP_sound (R := wpAnyH P .any ops.toArray (TP A w0 ds K) (fun w => Mem w RO) n _) (nx := tp P ops RO t) (fun fr M hk w st hro => tp_sound hK hs t n _ fr M hb3 hk w st hro) h.2 st hro
end
theorem draw_pan (id : Nat) (sch : Sch) (RO : List Blk) {P : Program} {ops : List Oper} {fr : List Value} {M : List Blk} {K : Ks} (hm : P.follows .mixedOrders = true) (hB : treeOk ops sch = true) (hK : Flat K)
 (h : Kept RO M (tp P ops RO sch fr M K)) : CodeW P (.region id ops.toArray true) fr M K := by
 unfold treeOk at hB
 simp only [Bool.and_eq_true] at hB
 obtain ⟨hs, hb⟩ := hB
 refine ⟨fun A w0 w ds st => ?_⟩
 obtain ⟨h1, h2⟩ := h.out
 have st' := st.drew (w.drawn + 1)
 have key := wp_region_held (Q := TP A w0 ds K) (id := id) (a := ⟨fr.toArray, ds⟩) (w := w) hm (tp_sound (ds := ds) hK hs sch _ _ fr M hb h2 _ st' (h1 _ _ _ st'))
 refine wp_mono key fun e a' w' hq => ?_
 obtain ⟨fr', M', rfl, s1, hk⟩ := hq
 exact ⟨fr', M', rfl, s1, hk⟩
end Ev
namespace Ev
open Go
theorem fldN {n off m : Nat} {cs : List Value} {t : TypeId} {k : List Value → Prop} {RO : List Blk} [h : Look RO n (.cells cs t)] (hk : dropK cs off fun l => takeK l m k) : FLdN RO n off m k := by
 obtain ⟨h1, h2⟩ := dropK_out hk
 obtain ⟨h3, h4⟩ := takeK_out h1
 refine ⟨_, by rw [List.length_take]; omega, fun w hm j v hj => ?_, h3⟩
 have := hm.1 _ h.mem
 simp only [Blk.holds] at this
 rw [List.getElem?_take] at hj
 split at hj
 · rw [List.getElem?_drop] at hj
   simp [World.cell?, this, hj]
 · cases hj
theorem slice3 {P : Program} {M : List Blk} {k : Kv} {pan : Kp} {tmps : Array Value} {ds : List Deferred} {o : Oper} {t e : TypeId} {x xh xm : Operand} {b off len cap h m : Nat} {kh km : IntKind} {i : TypeInfo} (ho : o.op = .slice t x none (some xh) (some xm))
 (ht : P.underlying t = some (.slice e)) (hi : P.info? e = some i) (hx : Act.eval ⟨tmps, ds⟩ x = .slice (some ⟨b, off, none⟩) len cap) (hh : Act.eval ⟨tmps, ds⟩ xh = .int kh (h : Int)) (hm : Act.eval ⟨tmps, ds⟩ xm = .int km (m : Int))
 (h1 : h ≤ m) (h2 : m ≤ cap) (hk : k (.slice (some ⟨b, off, none⟩) h m) M) : Runs P (execOp (Act.eval ⟨tmps, ds⟩) o) M k pan := by
 refine Runs.val (fun w => ?_) hk
 have b1 : ∀ kd (z : Nat) (y : Nat) c, z ≤ y → (Instr.sliceBound (.int kd (z : Int)) y c).run P w = .ok z w := fun kd z y c hz => by
  have : (0 : Int) ≤ z ∧ (z : Int) ≤ y := ⟨by omega, by omega⟩
  simp [Instr.sliceBound, asIntOf, this, hz]
 unfold execOp
 rw [ho]
 simp only [hx, Option.map_none, Option.map_some, hh, hm, Instr.sliceAt, Sem.run_bind, run_underlying ht, Result.andThen_ok, Instr.slice, Instr.sliceBounds, b1 km m cap _ h2, b1 kh h m _ h1, Sem.run_pure, run_sizeOf_eq hi, Nat.zero_mul, Nat.sub_zero]
 by_cases hz : m = 0
 · simp [hz]
 · simp [hz, add_none]
end Ev
namespace Srt
open Go Go.Shelf Go.Proofs Go.RowKit Go.Lib Go.Sort Ev
def lsort_ren : Go.Shelf.Ren := ⟨fun | 6 => 181 | 15 => 221 | 14 => 220 | 28 => 256 | 29 => 257 | 20 => 248 | 21 => 249 | 22 => 250 | 23 => 251 | 24 => 252 | 25 => 253 | 26 => 254 | 27 => 255 | 46 => 274 | 47 => 275 | 48 => 276 | 49 => 277 | 50 => 278 | 57 => 287 | n => n, fun | 22 => 38 | 24 => 117 | 25 => 261 | 3 => 3 | 39 => 277 | 0 => 0 | 53 => 315 | 55 => 317 | 4 => 4 | 46 => 309 | 45 => 308 | 50 => 176 | 5 => 5 | 9 => 9 | 66 => 343 | 70 => 279 | 76 => 354 | 77 => 355 | n => n, fun | n => n⟩
theorem lsort : Go.Proofs.SlLaysF0.n6 Tryz.prog lsort_ren := {
 mixed := by kernel_rfl
 f6 := ⟨Tryz.f181.name, by decide, Tryz.func181.trans (congrArg some (by kernel_rfl))⟩
 f14 := ⟨Tryz.f220.name, by decide, Tryz.func220.trans (congrArg some (by kernel_rfl))⟩
 f15 := Tryz.func221.trans (congrArg some (by kernel_rfl))
 f20 := ⟨Tryz.f248.name, by decide, Tryz.func248.trans (congrArg some (by kernel_rfl))⟩
 f21 := ⟨Tryz.f249.name, by decide, Tryz.func249.trans (congrArg some (by kernel_rfl))⟩
 f22 := ⟨Tryz.f250.name, by decide, Tryz.func250.trans (congrArg some (by kernel_rfl))⟩
 f23 := ⟨Tryz.f251.name, by decide, Tryz.func251.trans (congrArg some (by kernel_rfl))⟩
 f24 := ⟨Tryz.f252.name, by decide, Tryz.func252.trans (congrArg some (by kernel_rfl))⟩
 f25 := ⟨Tryz.f253.name, by decide, Tryz.func253.trans (congrArg some (by kernel_rfl))⟩
 f26 := ⟨Tryz.f254.name, by decide, Tryz.func254.trans (congrArg some (by kernel_rfl))⟩
 f27 := ⟨Tryz.f255.name, by decide, Tryz.func255.trans (congrArg some (by kernel_rfl))⟩
 f28 := Tryz.func256.trans (congrArg some (by kernel_rfl))
 f29 := Tryz.func257.trans (congrArg some (by kernel_rfl))
 f46 := ⟨Tryz.f274.name, by decide, Tryz.func274.trans (congrArg some (by kernel_rfl))⟩
 f47 := Tryz.func275.trans (congrArg some (by kernel_rfl))
 f48 := Tryz.func276.trans (congrArg some (by kernel_rfl))
 f49 := ⟨Tryz.f277.name, by decide, Tryz.func277.trans (congrArg some (by kernel_rfl))⟩
 f50 := ⟨Tryz.f278.name, by decide, Tryz.func278.trans (congrArg some (by kernel_rfl))⟩
 f57 := ⟨Tryz.f287.name, by decide, Tryz.func287.trans (congrArg some (by kernel_rfl))⟩
 t0 := Tryz.underlying0
 a0 := Tryz.isAgg0
 z0 := Tryz.sizeOf0
 v0 := Tryz.zeroValue0
 t3 := Tryz.underlying3
 a3 := Tryz.isAgg3
 z3 := Tryz.sizeOf3
 v3 := Tryz.zeroValue3
 t4 := Tryz.underlying4
 a4 := Tryz.isAgg4
 z4 := Tryz.sizeOf4
 v4 := Tryz.zeroValue4
 t5 := Tryz.underlying5
 a5 := Tryz.isAgg5
 z5 := Tryz.sizeOf5
 v5 := Tryz.zeroValue5
 t9 := Tryz.underlying9
 a9 := Tryz.isAgg9
 z9 := Tryz.sizeOf9
 v9 := Tryz.zeroValue9
 t22 := Tryz.underlying38
 a22 := Tryz.isAgg38
 z22 := Tryz.sizeOf38
 v22 := Tryz.zeroValue38
 t25 := Tryz.underlying261
 a25 := Tryz.isAgg261
 z25 := Tryz.sizeOf261
 v25 := Tryz.zeroValue261
 t39 := Tryz.underlying277
 a39 := Tryz.isAgg277
 z39 := Tryz.sizeOf277
 v39 := Tryz.zeroValue277
 t45 := Tryz.underlying308
 a45 := Tryz.isAgg308
 z45 := Tryz.sizeOf308
 v45 := Tryz.zeroValue308
 t46 := Tryz.underlying309
 a46 := Tryz.isAgg309
 z46 := Tryz.sizeOf309
 v46 := Tryz.zeroValue309
 t50 := Tryz.underlying176
 a50 := Tryz.isAgg176
 z50 := Tryz.sizeOf176
 v50 := Tryz.zeroValue176
 t53 := Tryz.underlying315
 a53 := Tryz.isAgg315
 z53 := Tryz.sizeOf315
 v53 := Tryz.zeroValue315
 t55 := Tryz.underlying317
 a55 := Tryz.isAgg317
 z55 := Tryz.sizeOf317
 v55 := Tryz.zeroValue317
 t66 := Tryz.underlying343
 a66 := Tryz.isAgg343
 z66 := Tryz.sizeOf343
 v66 := Tryz.zeroValue343
 t70 := Tryz.underlying279
 a70 := Tryz.isAgg279
 z70 := Tryz.sizeOf279
 v70 := Tryz.zeroValue279
 t76 := Tryz.underlying354
 a76 := Tryz.isAgg354
 z76 := Tryz.sizeOf354
 v76 := Tryz.zeroValue354
 t77 := Tryz.underlying355
 a77 := Tryz.isAgg355
 z77 := Tryz.sizeOf355
 v77 := Tryz.zeroValue355
}
def lcmp_ren : Go.Shelf.Ren := ⟨fun | 5 => 183 | 7 => 222 | n => n, fun | 22 => 3 | 3 => 3 | 4 => 4 | n => n, fun | n => n⟩
theorem lcmp : Go.Proofs.SlLaysC2.n5 Tryz.prog lcmp_ren := {
 mixed := by kernel_rfl
 f5 := ⟨Tryz.f183.name, by decide, Tryz.func183.trans (congrArg some (by kernel_rfl))⟩
 f7 := ⟨Tryz.f222.name, by decide, Tryz.func222.trans (congrArg some (by kernel_rfl))⟩
 t3 := Tryz.underlying3
 a3 := Tryz.isAgg3
 z3 := Tryz.sizeOf3
 v3 := Tryz.zeroValue3
 t4 := Tryz.underlying4
 a4 := Tryz.isAgg4
 z4 := Tryz.sizeOf4
 v4 := Tryz.zeroValue4
 t22 := Tryz.underlying3
 a22 := Tryz.isAgg3
 z22 := Tryz.sizeOf3
 v22 := Tryz.zeroValue3
}
def encP (x : Int × ByteArray) : List Value := [.int .i64 x.1, .string x.2]
def cfP (x y : Int × ByteArray) : Int := Lib.compareInt x.1 y.1
theorem ltP (x y : Int × ByteArray) : ltOf cfP x y = decide (x.1 < y.1) := by
 unfold ltOf cfP Lib.compareInt
 by_cases h1 : x.1 < y.1
 · simp [h1]
 · by_cases h2 : y.1 < x.1 <;> simp [h1, h2]
theorem swoP : SWO (ltOf cfP) where
 irrefl x := by rw [ltP]; simp
 trans x y z h1 h2 := by rw [ltP] at *; simp at *; omega
 ntrans x y z h1 h2 := by rw [ltP] at *; simp at *; omega
theorem closure_ (x y : Int × ByteArray) (W : World) : Calls Tryz.prog 182 #[.agg #[.int .i64 x.1, .string x.2], .agg #[.int .i64 y.1, .string y.2]] W fun e w' => e = .returned (.int .i64 (Lib.compareInt x.1 y.1)) ∧ ∃ q os', w' = grow (W.drewN q) os' := by
 have hcon := fun W' => AnyG.cmp_Compare_int lcmp x.1 y.1 W'
 change ∀ W', Calls Tryz.prog 183 _ _ _ at hcon
 generalize Lib.compareInt x.1 y.1 = r at hcon ⊢
 go_enter Tryz.func182, Tryz.ntmps182
 go_wp2_with (go_at_call 183; refine (hcon _).mono ?_; rintro e w' ⟨rfl, rfl⟩)
 go_ret
 exact ⟨rfl, 0, _, by rw [alloc_eq_grow, alloc_eq_grow, grow_grow]; rfl⟩
def flatV (l : List (Int × ByteArray)) : List Value := (l.map encP).flatten
theorem encP_lens (l : List (Int × ByteArray)) : ∀ x ∈ l.map encP, x.length = 2 := by
 intro x hx; obtain ⟨y, _, rfl⟩ := List.mem_map.1 hx; rfl
theorem flatV_len (l : List (Int × ByteArray)) : (flatV l).length = l.length * 2 := by
 induction l with
 | nil => rfl
 | cons a t ih =>
   have e : flatV (a :: t) = encP a ++ flatV t := rfl
   rw [e, List.length_append, ih]; show 2 + _ = _; simp only [List.length_cons]; omega
theorem flatV_get {l : List (Int × ByteArray)} {i k : Nat} (hi : i < l.length) (hk : k < 2) : (flatV l)[i * 2 + k]? = (encP l[i])[k]? :=
 flat_get (encP_lens l) (by rw [List.getElem?_map, List.getElem?_eq_getElem hi]; rfl) hk
theorem flatK_flatV (l : List (Int × ByteArray)) : flatK encP 2 l.toArray = (flatV l).toArray := by
 apply Array.ext_getElem?
 intro t
 by_cases h : t < l.length * 2
 · have h1 := Nat.mod_lt t (show 0 < 2 by omega)
   have e : t = t / 2 * 2 + t % 2 := by omega
   have h2 : t / 2 < l.length := by omega
   conv => rhs; rw [List.getElem?_toArray, e, flatV_get h2 h1]
   unfold flatK
   rw [Array.getElem?_map, Array.getElem?_range, if_pos (by simpa using h)]
   simp only [Option.map_some]
   have e3 : l.toArray[t / 2]! = l[t / 2] := by simp [h2]
   rw [e3]
   have hl : (encP l[t / 2]).length = 2 := rfl
   rw [List.getElem?_eq_getElem (by omega)]
   simp [hl, h1]
 · rw [Array.getElem?_eq_none (by simp; omega), List.getElem?_toArray, List.getElem?_eq_none (by rw [flatV_len]; omega)]
def srt (l : List (Int × ByteArray)) : List (Int × ByteArray) := l.mergeSort (fun x y => decide (x.1 ≤ y.1))
theorem srt_perm (l : List (Int × ByteArray)) : (srt l).Perm l := List.mergeSort_perm l _
theorem srt_pair (l : List (Int × ByteArray)) : (srt l).Pairwise fun x y => x.1 ≤ y.1 := by
 have := List.pairwise_mergeSort (le := fun x y : Int × ByteArray => decide (x.1 ≤ y.1)) (fun a b c h1 h2 => by simp at *; omega) (fun a b => by simp; omega) l
 exact this.imp fun h => by simpa using h
theorem uniq : ∀ {l m : List (Int × ByteArray)}, l.Perm m → (l.map (·.1)).Nodup → l.Pairwise (fun x y => x.1 ≤ y.1) → m.Pairwise (fun x y => x.1 ≤ y.1) → l = m
 | [], m, h, _, _, _ => (List.Perm.nil_eq h)
 | a :: t, [], h, _, _, _ => absurd h.length_eq (by simp)
 | a :: t, b :: u, h, hn, h1, h2 => by
   have ha : a ∈ b :: u := h.mem_iff.1 List.mem_cons_self
   have hb : b ∈ a :: t := h.mem_iff.2 List.mem_cons_self
   have h1' := List.pairwise_cons.1 h1
   have h2' := List.pairwise_cons.1 h2
   have hn' := List.nodup_cons.1 (show (a.1 :: t.map (·.1)).Nodup from hn)
   have hab : a = b := by
    rcases List.mem_cons.1 ha with q | q
    · exact q
    · rcases List.mem_cons.1 hb with q' | q'
      · exact q'.symm
      · exfalso
        have e1 := h1'.1 b q'
        have e2 := h2'.1 a q
        have e3 : a.1 = b.1 := by omega
        exact hn'.1 (e3 ▸ List.mem_map_of_mem q')
   subst hab
   rw [uniq h.cons_inv hn'.2 h1'.2 h2'.2]
theorem srt_of {l m : List (Int × ByteArray)} (h : l.Perm m) (hn : (m.map (·.1)).Nodup) : srt l = srt m := by
 refine uniq ((srt_perm l).trans (h.trans (srt_perm m).symm)) ?_ (srt_pair l) (srt_pair m)
 exact (List.Perm.map (·.1) ((srt_perm l).trans h)).nodup_iff.2 hn
theorem sort_ (blk cap : Nat) (l : List (Int × ByteArray)) (junk : List Value) (T : TypeId) (hn : (l.map (·.1)).Nodup) (hl : l.length < 4611686018427387904) :
 Fnc Tryz.prog 181 [.slice (some ⟨blk, 0, none⟩) l.length cap, .func (.func 182) #[] #[]] [⟨blk, .row (flatV l ++ junk) T⟩]
  (Ret (.tuple #[]) [⟨blk, .row (flatV (srt l) ++ junk) T⟩]) := by
 delta Fnc
 refine ⟨by kernel_rfl, fun w hm => ?_⟩
 have hb := hm.1 _ (List.mem_singleton.2 rfl)
 have hblk := hb.lt
 simp only [Blk.holds] at hb
 have eg : ∀ args w, (callFunc 182 args).run Tryz.prog w = .ok (.enter 182 args) w := enters_of Tryz.func182 (by kernel_rfl) rfl
 have hcell : ∀ (t : Nat) (v : Value), (flatV l)[t]? = some v → w.cell? ⟨blk, t, none⟩ = some v := fun t v ht => by
  have h1 : t < (flatV l).length := (List.getElem?_eq_some_iff.1 ht).1
  unfold World.cell?
  rw [hb]
  simp only [List.getElem?_toArray]
  rw [List.getElem?_append_left h1, ht]
  rfl
 have hH : HoldsK encP 2 w blk 0 l.toArray := by
  unfold HoldsK
  rw [flatK_flatV]
  intro j hj
  have hj' : j < (flatV l).length := by simpa using hj
  have e1 : (flatV l).toArray[j]! = (flatV l)[j] := by simp [hj']
  rw [e1, Nat.zero_add]
  refine ⟨hcell j _ (List.getElem?_eq_getElem hj'), ?_⟩
  unfold World.frozen?
  rw [hb]
  simp
 have hcon := AnyQ.slices_SortFunc lsort 2 Tryz.isAgg117 Tryz.sizeOf117 encP (fun _ => rfl) (fun x v hv => by simp [encP] at hv; rcases hv with rfl | rfl <;> rfl) cfP swoP 182 #[] blk 0 cap l.toArray w eg (fun _ _ _ _ x y => closure_ x y _) hH hblk (by simpa using hl)
 change Calls Tryz.prog 181 _ _ _ at hcon
 refine hcon.mono ?_
 rintro e w' ⟨rfl, d', n, os, hp, hs, rfl⟩
 have hsz : d'.size = l.length := by simpa using hp.1
 have hperm : d'.toList.Perm l := by
  have h3 := hp.2.2
  have h4 : (List.take l.length d'.toList).Perm l := by simpa [hsz] using h3
  rwa [List.take_of_length_le (by simp [hsz])] at h4
 have hpair : d'.toList.Pairwise fun x y => x.1 ≤ y.1 := by
  rw [List.pairwise_iff_getElem]
  intro i j hi hj hij
  have := hs i j (Nat.zero_le _) hij (by simpa [hsz] using hj)
  rw [ltP] at this
  have hi' : i < d'.size := by simpa using hi
  have hj' : j < d'.size := by simpa using hj
  simp [hi', hj'] at this
  simpa using this
 have hd : d'.toList = srt l := uniq (hperm.trans (srt_perm l).symm) ((List.Perm.map (·.1) hperm).nodup_iff.2 hn) hpair (srt_pair l)
 have hd' : d' = (srt l).toArray := by rw [← hd]
 subst hd'
 refine ⟨[⟨blk, .row (flatV (srt l) ++ junk) T⟩], ?_, rfl, rfl⟩
 have hlen : (srt l).length = l.length := (srt_perm l).length_eq
 have hobj : (sortWorldK encP 2 w blk 0 n (srt l).toArray os).heap[blk]? = some (.cells (flatV (srt l) ++ junk).toArray T (0, 0)) := by
  unfold sortWorldK putRowK putRow
  rw [flatK_flatV]
  unfold grow mapBlock
  simp only
  rw [Array.getElem?_append_left (by simpa using hblk), Array.getElem?_modify]
  simp only [if_true]
  rw [show (Sort.ahead w n).heap[blk]? = w.heap[blk]? from rfl, hb]
  simp only [Option.map_some, onCells]
  congr 2
  apply Array.ext_getElem?
  intro t
  unfold putCells
  rw [Array.getElem?_mapIdx, List.getElem?_toArray, List.getElem?_toArray]
  have hfl : (flatV l).length = (flatV (srt l)).length := by rw [flatV_len, flatV_len, hlen]
  by_cases h : t < (flatV (srt l)).length
  · rw [List.getElem?_append_left (by omega), List.getElem?_append_left h, List.getElem?_eq_getElem (show t < (flatV l).length by omega), List.getElem?_eq_getElem h]
    simp [h]
  · rw [List.getElem?_append_right (by omega), List.getElem?_append_right (by omega), hfl]
    cases hj : junk[t - (flatV (srt l)).length]? with
    | none => rfl
    | some v => simp [h]
 have hkeep : ∀ k, k < w.heap.size → k ≠ blk → (sortWorldK encP 2 w blk 0 n (srt l).toArray os).heap[k]? = w.heap[k]? := fun k hk hne => by
  unfold sortWorldK putRowK putRow grow mapBlock
  simp only
  rw [Array.getElem?_append_left (by simpa using hk), Array.getElem?_modify, if_neg (Ne.symm hne)]
  rfl
 refine ⟨rfl, rfl, rfl, size_sortWorldK_c encP 2 w blk 0 n _ os, fun k hk hA => hkeep k hk fun e => hA _ (List.mem_singleton.2 rfl) rfl e.symm, fun b hb' => ?_, fun b hb' => ?_, List.pairwise_singleton _ _⟩
 · obtain rfl := List.mem_singleton.1 hb'
   exact hobj
 · obtain rfl := List.mem_singleton.1 hb'
   exact .inl ⟨_, List.mem_singleton.2 rfl, rfl, fun h => h⟩
end Srt
namespace Ev
open Go Go.MapKept Go.ChangeMaps
section
variable {K : Type} {e : K → Value}
theorem ents_get : ∀ (l : List (K × Value)) (n i : Nat) (h : i < l.length), (ents e l n)[i]? = some { key := e l[i].1, val := l[i].2, born := n + i }
 | [], n, i, h => by simp at h
 | (k, v) :: t, n, 0, h => rfl
 | (k, v) :: t, n, i + 1, h => by
   show (ents e t (n + 1))[i]? = _
   rw [ents_get t (n + 1) i (by simpa using h)]
   simp only [List.getElem_cons_succ]
   congr 2
   omega
theorem ents_mem {l : List (K × Value)} {n : Nat} {x : MapEntry} (h : x ∈ ents e l n) : ∃ (i : Nat) (hi : i < l.length), x = { key := e l[i].1, val := l[i].2, born := n + i } := by
 obtain ⟨i, hi, hx⟩ := List.getElem_of_mem h
 rw [ents_len] at hi
 have := ents_get (e := e) l n i hi
 rw [List.getElem?_eq_getElem (by rw [ents_len]; exact hi)] at this
 exact ⟨i, hi, by rw [← hx]; exact Option.some.inj this⟩
theorem ents_born : ∀ (l : List (K × Value)) (n : Nat), (ents e l n).map (·.born) = (List.range l.length).map (n + ·)
 | [], n => rfl
 | (k, v) :: t, n => by
   show n :: (ents e t (n + 1)).map (·.born) = _
   rw [ents_born t (n + 1)]
   rw [List.length_cons, List.range_succ_eq_map]
   simp only [List.map_cons, List.map_map, Nat.add_zero]
   congr 1
   apply List.map_congr_left
   intro i _
   simp only [Function.comp]
   omega
def iterO (bm n : Nat) (seen : List Nat) : Obj := .mapIter (some bm) n seen.toArray n
section
variable {P : Program} {M : List Blk} {k : Kv} {pan : Kp}
theorem map_range {l : List (K × Value)} {t kt et : TypeId} {bm : Nat} (ht : P.underlying t = some (.map kt et)) [h : Look M bm (.obj (mapK e l))]
 (hk : ∀ r, k (.pointer (some ⟨r, 0, none⟩)) (⟨r, .obj (iterO bm l.length [])⟩ :: M)) : Runs P (VS (Instr.range t (.map (some bm)))) M k pan := by
 refine ⟨fun A w0 w st => ?_⟩
 have hb := obj_has st h
 unfold mapK at hb
 have hr := run_range_map w t kt et bm _ _ ht hb
 have : (VS (Instr.range t (.map (some bm)))).run P w = .ok (.value (.pointer (some ⟨w.heap.size, 0, none⟩))) (w.alloc (.mapIter (some bm) l.length #[] l.length)) := by
  unfold VS
  simp only [Sem.run_bind, hr, Result.andThen_ok, Sem.run_pure]
 rw [this]
 exact ⟨_, st.new _ (.obj (iterO bm l.length [])) ⟨by simp [iterO], rfl⟩, hk _⟩
theorem map_next {l : List (K × Value)} {seen : List Nat} {r bm : Nat} {ty : TypeId} {f : Blk → List Blk} [z : Zip M r (.obj (iterO bm l.length seen)) f] [h : Look M bm (.obj (mapK e l))]
 (h1 : (∀ i, i < l.length → i ∈ seen) → k (.tuple #[.bool false]) M) (h2 : ∀ i (hi : i < l.length), i ∉ seen → k (.tuple #[.bool true, e l[i].1, l[i].2]) (f ⟨r, .obj (iterO bm l.length (seen ++ [i]))⟩)) : Runs P (VS (Instr.next (.pointer (some ⟨r, 0, none⟩)) false ty)) M k pan := by
 refine ⟨fun A w0 w st => ?_⟩
 have hb := obj_has st h
 unfold mapK at hb
 have hu := z.upd
 have hr : w.heap[r]? = some (iterO bm l.length seen) := by
  obtain ⟨L, R, e1, e2⟩ := z.out
  exact (st.has ⟨r, .obj (iterO bm l.length seen)⟩ (by rw [e1]; simp)).1
 unfold iterO at hr
 have hold : ∀ x ∈ (ents e l 0).toArray.toList, x.born < l.length := fun x hx => by
  obtain ⟨i, hi, rfl⟩ := ents_mem (e := e) (by simpa using hx)
  simpa using hi
 have hrun : ∀ v w', (Instr.next (.pointer (some ⟨r, 0, none⟩)) false ty).run P w = .ok v w' → (VS (Instr.next (.pointer (some ⟨r, 0, none⟩)) false ty)).run P w = .ok (.value v) w' := fun v w' hv => by
  unfold VS
  simp only [Sem.run_bind, hv, Result.andThen_ok, Sem.run_pure]
 rcases run_next_at (P := P) w ty r bm l.length l.length seen.toArray _ l.length hr hb hold (Nat.le_refl _) with ⟨q1, q2⟩ | ⟨x, hx1, w1, hw1, q2⟩
 · rw [hrun _ _ q2]
   refine ⟨M, st, h1 fun i hi => ?_⟩
   have hL : leftOf (ents e l 0).toArray seen.toArray = #[] := Array.eq_empty_of_size_eq_zero q1
   by_cases hc : i ∈ seen
   · exact hc
   · exfalso
     have hm : (⟨e l[i].1, l[i].2, 0 + i⟩ : MapEntry) ∈ leftOf (ents e l 0).toArray seen.toArray := by
      unfold leftOf
      rw [Array.mem_filter]
      refine ⟨?_, ?_⟩
      · have := ents_get (e := e) l 0 i hi
        rw [List.mem_toArray]
        exact List.mem_of_getElem? this
      · simp [hc]
     rw [hL] at hm
     simp at hm
 · have hx2 : x ∈ ents e l 0 ∧ x.born ∉ seen := by
    have : x ∈ leftOf (ents e l 0).toArray seen.toArray := by simpa using hx1
    unfold leftOf at this
    rw [Array.mem_filter] at this
    exact ⟨by simpa using this.1, by simpa using this.2⟩
   obtain ⟨i, hi, rfl⟩ := ents_mem hx2.1
   have hi2 : i ∉ seen := by simpa using hx2.2
   rw [hrun _ _ q2]
   refine ⟨f ⟨r, .obj (iterO bm l.length (seen ++ [i]))⟩, ?_, h2 i hi hi2⟩
   have st1 : St A w0 w1 M := by
    rcases hw1 with rfl | rfl
    · exact st
    · exact st.drew _
   have hs := obj_set st1 (o' := iterO bm l.length (seen ++ [i])) (hu _) rfl
   have e3 : setBlock w1 r (.mapIter (some bm) l.length (seen.toArray.push (0 + i)) l.length) = { w1 with heap := w1.heap.setIfInBounds r (iterO bm l.length (seen ++ [i])) } := by
    unfold setBlock iterO
    simp
   rw [e3]
   exact hs
theorem map_entry {l : List (K × Value)} {seen : List Nat} {r bm i : Nat} (hi : i < l.length) [hr : Look M r (.obj (iterO bm l.length (seen ++ [i])))] [h : Look M bm (.obj (mapK e l))]
 (hk : k (.tuple #[e l[i].1, l[i].2]) M) : Runs P (VS (Instr.entry (.pointer (some ⟨r, 0, none⟩)))) M k pan := by
 refine ⟨fun A w0 w st => ?_⟩
 have hb := obj_has st h
 have hr' := obj_has st hr
 unfold mapK at hb
 unfold iterO at hr'
 have he := ents_get (e := e) l 0 i hi
 have hrun := run_entry_at (P := P) w r bm l.length seen.toArray _ l.length ⟨e l[i].1, l[i].2, 0 + i⟩ (by rw [hr']; simp) hb (by simpa using List.mem_of_getElem? he) (by
  have e4 : (ents e l 0).map (·.born) = (List.range l.length).map (0 + ·) := ents_born l 0
  simp only
  rw [e4]
  have : (fun x => 0 + x) = (id : Nat → Nat) := by funext x; simp
  rw [this, List.map_id]
  exact List.nodup_range)
 have : (VS (Instr.entry (.pointer (some ⟨r, 0, none⟩)))).run P w = .ok (.value (.tuple #[e l[i].1, l[i].2])) w := by
  unfold VS
  simp only [Sem.run_bind, hrun, Result.andThen_ok, Sem.run_pure]
 rw [this]
 exact ⟨M, st, hk⟩
end
end
end Ev
namespace Rig
open Go Ev
structure B3 where
 now : ByteArray
 safe : ByteArray
 is : Bool
abbrev bC (b : B3) : List Value := [.string b.now, .string b.safe, .bool b.is]
abbrev DevC := Nat → B3
def rowD (n : Nat) (d : DevC) : List Value := ((List.range n).map fun i => bC (d i)).flatten
theorem rowD_lens (n : Nat) (d : DevC) : ∀ x ∈ (List.range n).map (fun i => bC (d i)), x.length = 3 := by
 intro x hx; obtain ⟨i, _, rfl⟩ := List.mem_map.1 hx; rfl
theorem rowD_len (n : Nat) (d : DevC) : (rowD n d).length = n * 3 := by
 unfold rowD
 rw [List.length_flatten]
 have : (((List.range n).map (fun i => bC (d i))).map List.length) = List.replicate n 3 := by
  apply List.ext_getElem?
  intro i
  by_cases h : i < n
  · simp [h]
  · simp [h]
 rw [this]
 simp
theorem rowD_succ (n : Nat) (d : DevC) : rowD (n + 1) d = rowD n d ++ bC (d n) := by
 unfold rowD; rw [List.range_succ]; simp
theorem rowD_get {n i k : Nat} {d : DevC} (hi : i < n) (hk : k < 3) : (rowD n d)[i * 3 + k]? = (bC (d i))[k]? :=
 flat_get (rowD_lens n d) (by rw [List.getElem?_map, List.getElem?_range hi]; rfl) hk
def updD (d : DevC) (i : Nat) (b : B3) : DevC := fun j => if j = i then b else d j
theorem rowD_set {n i : Nat} {d : DevC} {b : B3} {junk : List Value} (hi : i < n) : (rowD n d ++ junk).take (i * 3) ++ bC b ++ (rowD n d ++ junk).drop (i * 3 + 3) = rowD n (updD d i b) ++ junk := by
 have hl := rowD_len n d
 have hl2 := rowD_len n (updD d i b)
 rw [List.take_append_of_le_length (by omega), List.drop_append_of_le_length (by omega), ← List.append_assoc]
 congr 1
 apply List.ext_getElem?
 intro k
 have hm := Nat.mod_lt k (show 0 < 3 by omega)
 have ek : k = k / 3 * 3 + k % 3 := by omega
 by_cases h1 : k < i * 3
 · rw [List.append_assoc, List.getElem?_append_left (by rw [List.length_take]; omega), List.getElem?_take, if_pos h1, ek, rowD_get (by omega) hm, rowD_get (by omega) hm]
   unfold updD; rw [if_neg (by omega)]
 · by_cases h2 : k < i * 3 + 3
   · rw [List.append_assoc, List.getElem?_append_right (by rw [List.length_take]; omega), List.length_take, Nat.min_eq_left (by omega), List.getElem?_append_left (by show k - i * 3 < 3; omega)]
     have e : k / 3 = i := by omega
     conv => rhs; rw [ek, e, rowD_get hi hm]
     unfold updD; rw [if_pos rfl]
     congr 1; omega
   · rw [List.append_assoc, List.getElem?_append_right (by rw [List.length_take]; omega), List.length_take, Nat.min_eq_left (by omega), List.getElem?_append_right (by show 3 ≤ k - i * 3; omega), List.getElem?_drop]
     rw [show i * 3 + 3 + (k - i * 3 - (bC b).length) = k by show i * 3 + 3 + (k - i * 3 - 3) = k; omega]
     by_cases h3 : k / 3 < n
     · rw [ek, rowD_get h3 hm, rowD_get h3 hm]
       unfold updD; rw [if_neg (by omega)]
     · rw [List.getElem?_eq_none (by omega), List.getElem?_eq_none (by omega)]
structure DevA where
 dn : Nat
 an : Nat
 cap : Nat
 junk : List Value
def devM (a : DevA) (d : DevC) : List Blk := [⟨a.dn, .cells [.slice (some ⟨a.an, 0, none⟩) 288 a.cap] 206⟩, ⟨a.an, .row (rowD 288 d ++ a.junk) 203⟩]
structure RigP where
 d0 : DevC
 d1 : DevC
 reg : ByteArray
 down : Bool
 calls : Int
 later : Int
 arm : Int
 fault : Int
 td : Int
 ti : Int
 ts : ByteArray
 htd : td = 0 ∨ td = 1
structure RigA where
 rn : Nat
 a0 : DevA
 a1 : DevA
abbrev pt (n : Nat) : Value := .pointer (some ⟨n, 0, none⟩)
def rigC (a : RigA) (r : RigP) : List Value := [pt a.a0.dn, pt a.a1.dn, .string r.reg, .bool r.down, .int .i64 r.calls, .int .i64 r.later, .int .i64 r.arm, .int .i64 r.fault, .int .i64 r.td, .int .i64 r.ti, .string r.ts]
def rigM (a : RigA) (r : RigP) : List Blk := ⟨a.rn, .row (rigC a r) 150⟩ :: (devM a.a0 r.d0 ++ devM a.a1 r.d1)
def RigP.dev (r : RigP) (d : Int) : DevC := if d = 0 then r.d0 else r.d1
def RigP.setDev (r : RigP) (d : Int) (x : DevC) : RigP := if d = 0 then { r with d0 := x } else { r with d1 := x }
def tamperD (d : DevC) (i : Int) (s : ByteArray) : DevC := if 0 ≤ i ∧ i < 288 ∧ s.size = 64 then updD d i.toNat { (d i.toNat) with now := s, safe := s } else d
def writeD (d : DevC) (i : Nat) (s : ByteArray) : DevC := updD d i { (d i) with now := s, is := true }
def flushD (d : DevC) : DevC := fun i => { (d i) with safe := (d i).now, is := false }
def comes (n : Int) : Int × Bool := if n = 0 then (n, false) else (IntKind.i64.wrap (n - 1), decide (IntKind.i64.wrap (n - 1) = 0))
def tk0 (r : RigP) : RigP := { r with calls := IntKind.i64.wrap (r.calls + 1), later := (comes r.later).1 }
def tk1 (r : RigP) : RigP := if (comes r.later).2 then (tk0 r).setDev r.td (tamperD (r.dev r.td) r.ti r.ts) else tk0 r
def tk (r : RigP) : RigP := { tk1 r with fault := (comes r.fault).1, arm := (comes r.arm).1 }
def tick (r : RigP) : RigP × Option Int :=
 if r.down then (r, some 11)
 else if (comes r.arm).2 then ({ tk r with down := true }, some 11)
 else if (comes r.fault).2 then (tk r, some 10)
 else (tk r, none)
def mayE (d i : Int) : Int := if d < 0 ∨ 2 ≤ d then 2 else if i < 0 ∨ 288 ≤ i then 3 else 0
def readR (r : RigP) (d i : Int) : RigP × ByteArray × Int :=
 if mayE d i ≠ 0 then (r, ByteArray.empty, mayE d i)
 else match (tick r).2 with
  | some e => ((tick r).1, ByteArray.empty, e)
  | none => ((tick r).1, ((tick r).1.dev d i.toNat).now, 0)
def writeR (r : RigP) (d i : Int) (s : ByteArray) : RigP × Int :=
 if mayE d i ≠ 0 then (r, mayE d i)
 else if s.size ≠ 64 then (r, 6)
 else match (tick r).2 with
  | some e => ((tick r).1, e)
  | none => ((tick r).1.setDev d (writeD ((tick r).1.dev d) i.toNat s), 0)
def flushR (r : RigP) (d : Int) : RigP × Int :=
 if mayE d 0 ≠ 0 then (r, mayE d 0)
 else match (tick r).2 with
  | some e => ((tick r).1, e)
  | none => ((tick r).1.setDev d (flushD ((tick r).1.dev d)), 0)
def regR (r : RigP) : RigP × ByteArray × Int :=
 match (tick r).2 with
 | some e => ((tick r).1, ByteArray.empty, e)
 | none => ((tick r).1, (tick r).1.reg, 0)
def setRegR (r : RigP) (s : ByteArray) : RigP × Int :=
 if s.size ≠ 96 then (r, 6)
 else match (tick r).2 with
  | some e => ((tick r).1, e)
  | none => ({ (tick r).1 with reg := s }, 0)
structure Rg where
 a : RigA
 r : RigP
def rgM (x : Rg) : List Blk := rigM x.a x.r
end Rig
namespace Sha
open Go Ev
def sl (x k : Int) : Int := IntKind.u32.wrap (x * 2 ^ min k.toNat IntKind.u32.bits)
def sr (x k : Int) : Int := x.fdiv (2 ^ min k.toNat IntKind.u32.bits)
def bo (a b : Int) : Int := IntKind.u32.wrap (BitVec.ofInt IntKind.u32.bits a ||| BitVec.ofInt IntKind.u32.bits b).toNat
def ba (a b : Int) : Int := IntKind.u32.wrap (BitVec.ofInt IntKind.u32.bits a &&& BitVec.ofInt IntKind.u32.bits b).toNat
def bx (a b : Int) : Int := IntKind.u32.wrap (BitVec.ofInt IntKind.u32.bits a ^^^ BitVec.ofInt IntKind.u32.bits b).toNat
def bn (a : Int) : Int := IntKind.u32.wrap (BitVec.ofInt IntKind.u32.bits (if IntKind.u32.signed then -1 else IntKind.u32.max) ^^^ BitVec.ofInt IntKind.u32.bits a).toNat
def ad (a b : Int) : Int := IntKind.u32.wrap (a + b)
def cv (a : Int) : Int := IntKind.u32.wrap a
def updF (t : Nat → Int) (i : Nat) (v : Int) : Nat → Int := fun j => if j = i then v else t j
def rowW (t : Nat → Int) : List Value := (List.range 64).map fun j => .int .u32 (t j)
theorem rowW_len (t : Nat → Int) : (rowW t).length = 64 := by unfold rowW; simp
theorem rowW_at {t : Nat → Int} {k : Nat} (h : k < 64) : (rowW t)[k]? = some (.int .u32 (t k)) := by unfold rowW; rw [List.getElem?_map, List.getElem?_range h]; rfl
theorem rowW_set {t : Nat → Int} {k : Nat} {v : Int} (h : k < 64) : (rowW t).set k (.int .u32 v) = rowW (updF t k v) := by
 apply List.ext_getElem?
 intro j
 rw [List.getElem?_set, rowW_len]
 by_cases hj : j < 64
 · rw [rowW_at hj, rowW_at hj]
   unfold updF
   by_cases e : k = j
   · rw [if_pos e, if_pos h, if_pos e.symm]
   · rw [if_neg e, if_neg (Ne.symm e)]
 · rw [if_neg (by omega), List.getElem?_eq_none (by rw [rowW_len]; omega), List.getElem?_eq_none (by rw [rowW_len]; omega)]
def wx16 (s : ByteArray) (i : Nat) : Int := bo (bo (bo (sl (cv (byteAt s (4 * i))) 24) (sl (cv (byteAt s (4 * i + 1))) 16)) (sl (cv (byteAt s (4 * i + 2))) 8)) (cv (byteAt s (4 * i + 3)))
def t16 (s : ByteArray) : Nat → Nat → Int
 | 0 => fun _ => 0
 | i + 1 => updF (t16 s i) i (wx16 s i)
def wx64 (t : Nat → Int) (i : Nat) : Int :=
 ad (ad (ad (t (i - 16)) (bx (bx (bo (sr (t (i - 15)) 7) (sl (t (i - 15)) 25)) (bo (sr (t (i - 15)) 18) (sl (t (i - 15)) 14))) (sr (t (i - 15)) 3))) (t (i - 7)))
  (bx (bx (bo (sr (t (i - 2)) 17) (sl (t (i - 2)) 15)) (bo (sr (t (i - 2)) 19) (sl (t (i - 2)) 13))) (sr (t (i - 2)) 10))
def t64 (s : ByteArray) : Nat → Nat → Int
 | 0 => t16 s 16
 | i + 1 => updF (t64 s i) (16 + i) (wx64 (t64 s i) (16 + i))
structure S8 where
 a : Int
 b : Int
 c : Int
 d : Int
 e : Int
 f : Int
 g : Int
 h : Int
def rX (s : S8) (l w : Int) : Int := ad (ad (ad (ad s.h (bx (bx (bo (sr s.e 6) (sl s.e 26)) (bo (sr s.e 11) (sl s.e 21))) (bo (sr s.e 25) (sl s.e 7)))) (bx (ba s.e s.f) (ba (bn s.e) s.g))) l) w
def rY (s : S8) : Int := ad (bx (bx (bo (sr s.a 2) (sl s.a 30)) (bo (sr s.a 13) (sl s.a 19))) (bo (sr s.a 22) (sl s.a 10))) (bx (bx (ba s.a s.b) (ba s.a s.c)) (ba s.b s.c))
def rnd (s : S8) (l w : Int) : S8 := ⟨ad (rX s l w) (rY s), s.a, s.b, s.c, ad s.d (rX s l w), s.e, s.f, s.g⟩
def sC (s : S8) : List Value := [.int .u32 s.a, .int .u32 s.b, .int .u32 s.c, .int .u32 s.d, .int .u32 s.e, .int .u32 s.f, .int .u32 s.g, .int .u32 s.h]
def kL : List Int := [0x428a2f98, 0x71374491, 0xb5c0fbcf, 0xe9b5dba5, 0x3956c25b, 0x59f111f1, 0x923f82a4, 0xab1c5ed5, 0xd807aa98, 0x12835b01, 0x243185be, 0x550c7dc3, 0x72be5d74, 0x80deb1fe, 0x9bdc06a7, 0xc19bf174, 0xe49b69c1, 0xefbe4786, 0x0fc19dc6, 0x240ca1cc, 0x2de92c6f, 0x4a7484aa, 0x5cb0a9dc, 0x76f988da, 0x983e5152, 0xa831c66d, 0xb00327c8, 0xbf597fc7, 0xc6e00bf3, 0xd5a79147, 0x06ca6351, 0x14292967, 0x27b70a85, 0x2e1b2138, 0x4d2c6dfc, 0x53380d13, 0x650a7354, 0x766a0abb, 0x81c2c92e, 0x92722c85, 0xa2bfe8a1, 0xa81a664b, 0xc24b8b70, 0xc76c51a3, 0xd192e819, 0xd6990624, 0xf40e3585, 0x106aa070, 0x19a4c116, 0x1e376c08, 0x2748774c, 0x34b0bcb5, 0x391c0cb3, 0x4ed8aa4a, 0x5b9cca4f, 0x682e6ff3, 0x748f82ee, 0x78a5636f, 0x84c87814, 0x8cc70208, 0x90befffa, 0xa4506ceb, 0xbef9a3f7, 0xc67178f2]
def kF (i : Nat) : Int := (kL[i]?).getD 0
def rnds (s : S8) (t : Nat → Int) : Nat → S8
 | 0 => s
 | i + 1 => rnd (rnds s t i) (kF i) (t i)
def work (h : S8) (s : ByteArray) : S8 :=
 let r := rnds h (t64 s 48) 64
 ⟨ad h.a r.a, ad h.b r.b, ad h.c r.c, ad h.d r.d, ad h.e r.e, ad h.f r.f, ad h.g r.g, ad h.h r.h⟩
def words : S8 := ⟨0x6a09e667, 0xbb67ae85, 0x3c6ef372, 0xa54ff53a, 0x510e527f, 0x9b05688c, 0x1f83d9ab, 0x5be0cd19⟩
def along (h : S8) (s : ByteArray) : Nat → S8 × ByteArray
 | 0 => (h, s)
 | k + 1 => (work (along h s k).1 ((along h s k).2.extract 0 64), (along h s k).2.extract 64 (along h s k).2.size)
theorem along_size (h : S8) (s : ByteArray) : ∀ k, 64 * k ≤ s.size → (along h s k).2.size = s.size - 64 * k
 | 0, _ => by show s.size = _; omega
 | k + 1, hk => by
   have := along_size h s k (by omega)
   show ((along h s k).2.extract 64 (along h s k).2.size).size = _
   rw [ByteArray.size_extract, this]
   omega
def zerosN (n : Nat) : Nat := (119 - n % 64) % 64
def tailL (n : Nat) : List UInt8 := [0x80] ++ List.replicate (zerosN n) 0 ++ (List.range 8).map fun k => UInt8.ofNat (n * 8 / 2 ^ (56 - 8 * k))
def by32 (w : Int) (k : Nat) : UInt8 := UInt8.ofNat (w.toNat / 2 ^ (24 - 8 * k))
def dig (s : S8) : Nat → UInt8 := fun j =>
 by32 (if j / 4 = 0 then s.a else if j / 4 = 1 then s.b else if j / 4 = 2 then s.c else if j / 4 = 3 then s.d else if j / 4 = 4 then s.e else if j / 4 = 5 then s.f else if j / 4 = 6 then s.g else s.h) (j % 4)
def D (s : ByteArray) : Nat → UInt8 :=
 let p := along words s (s.size / 64)
 let t := p.2 ++ str (tailL s.size)
 dig (along p.1 t (t.size / 64)).1
end Sha
namespace Aes
open Go Ev Sha
def sl8 (x k : Int) : Int := IntKind.u8.wrap (x * 2 ^ min k.toNat IntKind.u8.bits)
def sr8 (x k : Int) : Int := x.fdiv (2 ^ min k.toNat IntKind.u8.bits)
def bo8 (a b : Int) : Int := IntKind.u8.wrap (BitVec.ofInt IntKind.u8.bits a ||| BitVec.ofInt IntKind.u8.bits b).toNat
def ba8 (a b : Int) : Int := IntKind.u8.wrap (BitVec.ofInt IntKind.u8.bits a &&& BitVec.ofInt IntKind.u8.bits b).toNat
def bx8 (a b : Int) : Int := IntKind.u8.wrap (BitVec.ofInt IntKind.u8.bits a ^^^ BitVec.ofInt IntKind.u8.bits b).toNat
def by8 (x : Int) : Prop := 0 ≤ x ∧ x ≤ 255
theorem by8_wrap (z : Int) : by8 (IntKind.u8.wrap z) := by
 rw [IntKind.wrap_u8]; unfold by8; omega
theorem by8_bx (x k : Int) : by8 (bx8 x k) := by8_wrap _
def twice (a : Int) : Int := if ba8 a 128 = 0 then sl8 a 1 else bx8 (sl8 a 1) 27
theorem by8_twice (a : Int) : by8 (twice a) := by unfold twice; split <;> exact by8_wrap _
structure M3 where
 o : Int
 a : Int
 b : Int
def mstep (x : M3) : M3 := ⟨if ba8 x.b 1 = 0 then x.o else bx8 x.o x.a, twice x.a, sr8 x.b 1⟩
def mit (a b : Int) : Nat → M3
 | 0 => ⟨0, a, b⟩
 | k + 1 => mstep (mit a b k)
def mul (a b : Int) : Int := (mit a b 8).o
theorem mit_b (a b : Int) : ∀ k, (mit a b k).b = b / 2 ^ k
 | 0 => by show b = _; simp
 | k + 1 => by
   show sr8 (mit a b k).b 1 = _
   rw [mit_b a b k]
   unfold sr8
   rw [show (2 : Int) ^ min (Int.toNat 1) IntKind.u8.bits = 2 from rfl, Int.fdiv_eq_ediv_of_nonneg _ (by omega), Int.pow_succ]
   first
    | exact Int.ediv_ediv_eq_ediv_mul _ (Int.le_of_lt (Int.pow_pos (by omega)))
    | exact Int.ediv_ediv_of_nonneg (Int.le_of_lt (Int.pow_pos (by omega)))
    | (rw [← Int.ediv_ediv_eq_ediv_mul]; exact Int.le_of_lt (Int.pow_pos (by omega)))
theorem mit_o (a b : Int) (k : Nat) (h : (mit a b k).b = 0) : ∀ j, (mit a b (k + j)).o = (mit a b k).o ∧ (mit a b (k + j)).b = 0
 | 0 => ⟨rfl, h⟩
 | j + 1 => by
   obtain ⟨h1, h2⟩ := mit_o a b k h j
   show (mstep (mit a b (k + j))).o = _ ∧ (mstep (mit a b (k + j))).b = 0
   unfold mstep
   rw [h2]
   refine ⟨?_, rfl⟩
   have e : ba8 0 1 = 0 := by unfold ba8; decide +kernel
   show (if ba8 0 1 = 0 then (mit a b (k + j)).o else bx8 (mit a b (k + j)).o (mit a b (k + j)).a) = (mit a b k).o
   rw [if_pos e]
   exact h1
def sq (a : Int) : Nat → Int
 | 0 => a
 | k + 1 => mul (sq a k) (sq a k)
def pwr (a : Int) : Nat → Int
 | 0 => 1
 | 1 => 1
 | k + 2 => mul (pwr a (k + 1)) (sq a (k + 1))
def inv (a : Int) : Int := if a = 0 then 0 else pwr a 8
def turn (a k : Int) : Int := bo8 (sl8 a k) (sr8 a (8 - k))
def box (b : Int) : Int := bx8 (bx8 (bx8 (bx8 (bx8 (inv b) (turn (inv b) 1)) (turn (inv b) 2)) (turn (inv b) 3)) (turn (inv b) 4)) 99
theorem by8_mit (a b : Int) (ha : by8 a) : ∀ k, by8 (mit a b k).o ∧ by8 (mit a b k).a
 | 0 => ⟨by unfold by8; show 0 ≤ (0 : Int) ∧ (0 : Int) ≤ 255; omega, ha⟩
 | k + 1 => by
   obtain ⟨h1, h2⟩ := by8_mit a b ha k
   show by8 (mstep (mit a b k)).o ∧ by8 (mstep (mit a b k)).a
   unfold mstep
   refine ⟨?_, by8_twice _⟩
   show by8 (if _ then _ else _)
   split
   · exact h1
   · exact by8_bx _ _
theorem by8_mul {a b : Int} (ha : by8 a) : by8 (mul a b) := (by8_mit a b ha 8).1
theorem by8_sq {a : Int} (ha : by8 a) : ∀ k, by8 (sq a k)
 | 0 => ha
 | k + 1 => by8_mul (by8_sq ha k)
theorem by8_box (b : Int) : by8 (box b) := by8_bx _ _
def rowK (t : Nat → Int) : List Value := (List.range 752).map fun j => .int .u8 (t j)
theorem rowK_len (t : Nat → Int) : (rowK t).length = 752 := by unfold rowK; simp
theorem rowK_at {t : Nat → Int} {k : Nat} (h : k < 752) : (rowK t)[k]? = some (.int .u8 (t k)) := by unfold rowK; rw [List.getElem?_map, List.getElem?_range h]; rfl
theorem rowK_set {t : Nat → Int} {k : Nat} {v : Int} (h : k < 752) : (rowK t).set k (.int .u8 v) = rowK (updF t k v) := by
 apply List.ext_getElem?
 intro j
 rw [List.getElem?_set, rowK_len]
 by_cases hj : j < 752
 · rw [rowK_at hj, rowK_at hj]
   unfold updF
   by_cases e : k = j
   · rw [if_pos e, if_pos h, if_pos e.symm]
   · rw [if_neg e, if_neg (Ne.symm e)]
 · rw [if_neg (by omega), List.getElem?_eq_none (by rw [rowK_len]; omega), List.getElem?_eq_none (by rw [rowK_len]; omega)]
def boxT : Nat → Nat → Int
 | 0 => fun _ => 0
 | i + 1 => updF (updF (boxT i) (240 + i) (box i)) (496 + (box i).toNat) i
def set4 (t : Nat → Int) (o : Nat) (a b c d : Int) : Nat → Int := updF (updF (updF (updF t o a) (o + 1) b) (o + 2) c) (o + 3) d
def im (t : Nat → Int) (x : Int) : Int := t (240 + x.toNat)
def power : Nat → Int
 | 0 => 1
 | k + 1 => twice (power k)
def nextW (t : Nat → Int) (i : Nat) : Int × Int × Int × Int :=
 let o := 4 * (i - 1)
 if i % 8 = 0 then (bx8 (im t (t (o + 1))) (power (i / 8 - 1)), im t (t (o + 2)), im t (t (o + 3)), im t (t o))
 else if i % 8 = 4 then (im t (t o), im t (t (o + 1)), im t (t (o + 2)), im t (t (o + 3)))
 else (t o, t (o + 1), t (o + 2), t (o + 3))
def wordT (key : ByteArray) : Nat → Nat → Int
 | 0 => boxT 256
 | i + 1 =>
   let t := wordT key i
   if i < 8 then set4 t (4 * i) (byteAt key (4 * i)) (byteAt key (4 * i + 1)) (byteAt key (4 * i + 2)) (byteAt key (4 * i + 3))
   else
    let w := nextW t i
    let p := 4 * (i - 8)
    set4 t (4 * i) (bx8 (t p) w.1) (bx8 (t (p + 1)) w.2.1) (bx8 (t (p + 2)) w.2.2.1) (bx8 (t (p + 3)) w.2.2.2)
def keyT (key : ByteArray) : Nat → Int := wordT key 60
def row16 (t : Nat → Int) : List Value := (List.range 16).map fun j => .int .u8 (t j)
theorem row16_len (t : Nat → Int) : (row16 t).length = 16 := by unfold row16; simp
theorem row16_at {t : Nat → Int} {k : Nat} (h : k < 16) : (row16 t)[k]? = some (.int .u8 (t k)) := by unfold row16; rw [List.getElem?_map, List.getElem?_range h]; rfl
theorem row16_set {t : Nat → Int} {k : Nat} {v : Int} (h : k < 16) : (row16 t).set k (.int .u8 v) = row16 (updF t k v) := by
 apply List.ext_getElem?
 intro j
 rw [List.getElem?_set, row16_len]
 by_cases hj : j < 16
 · rw [row16_at hj, row16_at hj]
   unfold updF
   by_cases e : k = j
   · rw [if_pos e, if_pos h, if_pos e.symm]
   · rw [if_neg e, if_neg (Ne.symm e)]
 · rw [if_neg (by omega), List.getElem?_eq_none (by rw [row16_len]; omega), List.getElem?_eq_none (by rw [row16_len]; omega)]
def adds (k : Nat → Int) (n : Nat) (s : Nat → Int) : Nat → Nat → Int
 | 0 => s
 | i + 1 => updF (adds k n s i) i (bx8 (adds k n s i i) (k (16 * n + i)))
def imgs (k : Nat → Int) (s : Nat → Int) : Nat → Nat → Int
 | 0 => fun _ => 0
 | i + 1 => updF (imgs k s i) i (k (240 + (s ((i + 4 * (i % 4)) % 16)).toNat))
def mixAll (s : Nat → Int) (c : Nat) : Int := bx8 (bx8 (bx8 (s c) (s (c + 1))) (s (c + 2))) (s (c + 3))
def mixs (s : Nat → Int) : Nat → Nat → Int
 | 0 => fun _ => 0
 | j + 1 =>
   let c := j / 4 * 4
   let r := j % 4
   updF (mixs s j) (c + r) (bx8 (bx8 (s (c + r)) (mixAll s c)) (twice (bx8 (s (c + r)) (s (c + (r + 1) % 4)))))
def add16 (k : Nat → Int) (n : Nat) (s : Nat → Int) : Nat → Int := adds k n s 16
def rounds (k s : Nat → Int) : Nat → Nat → Int
 | 0 => add16 k 0 s
 | n + 1 => add16 k (n + 1) (mixs (imgs k (rounds k s n) 16) 16)
def bytesT (s : ByteArray) : Nat → Int := fun j => if j < 16 then byteAt s j else 0
def cipher (k : Nat → Int) (s : ByteArray) : Nat → Int := add16 k 14 (imgs k (rounds k (bytesT s) 13) 16)
def enc (k : Nat → Int) (s : ByteArray) : ByteArray := str ((List.range 16).map fun j => UInt8.ofNat (cipher k s j).toNat)
end Aes
namespace Sha
open Go Ev
theorem wr32 {z : Int} {K : Int → Prop} (h : ∀ z', z' = IntKind.u32.wrap z → K z') : Wr .u32 z K := ⟨h _ rfl⟩
theorem wr8 {z : Int} {K : Int → Prop} (h : ∀ z', z' = IntKind.u8.wrap z → K z') : Wr .u8 z K := ⟨h _ rfl⟩
theorem qld1_row {M : List Blk} {n off : Nat} {cs : List Value} {t : TypeId} {k : Value → Prop} {v : Value} [h : Look M n (.row cs t)] (hv : cs[off]? = some v) (hk : k v) : QLd1 M n off k :=
 ⟨⟨v, fun A w0 w st => by have := st.has _ h.mem; simp only [Blk.holds] at this; simp [World.cell?, this, hv], hk⟩⟩
theorem nv_eq {z a : Nat} {K : Nat → Prop} (h : z = a) (hk : K a) : Nv z K := ⟨by rw [h]; exact hk⟩
section
variable {P : Program} {M : List Blk} {n : Nat} {T : TypeId} {f : Blk → List Blk} {k : List Blk → Prop}
theorem st_w16 {s : ByteArray} {i : Nat} [z : Zip M n (.row (rowW (t16 s i)) T) f] (hi : i < 64) (hk : k (f ⟨n, .row (rowW (t16 s (i + 1))) T⟩)) : StN P M n i [.int .u32 (wx16 s i)] k :=
 st_row rfl (by rw [rowW_len]; exact hi) (by rw [rowW_set hi]; exact hk)
theorem st_w64 {s : ByteArray} {j : Nat} [z : Zip M n (.row (rowW (t64 s j)) T) f] (hi : 16 + j < 64) (hk : k (f ⟨n, .row (rowW (t64 s (j + 1))) T⟩)) : StN P M n (16 + j) [.int .u32 (wx64 (t64 s j) (16 + j))] k :=
 st_row rfl (by rw [rowW_len]; exact hi) (by rw [rowW_set hi]; exact hk)
end
theorem rnds_succ (s : S8) (t : Nat → Int) (i : Nat) : rnds s t (i + 1) = rnd (rnds s t i) (kF i) (t i) := rfl
abbrev kV : List Value := kL.map (.int .u32)
theorem consts : Fnc Tryz.prog 284 [] [] (Ret (.agg kV.toArray) []) := by
 refine fn_intro Tryz.func284 (by kernel_rfl) ?_
 repeat' ((conv => whnf); first
  | refine ldN_lit ?_ | refine nw (fun n => ?_) | refine bld ?_ | refine st_lit rfl ?_ | refine need (by first | rfl | omega) ?_ | refine fin_nil ⟨?_, rfl⟩)
 all_goals first | rfl | exact fin_nil ⟨rfl, rfl⟩
theorem words_ : Fnc Tryz.prog 267 [] [] (Ret (.agg (sC words).toArray) []) := by
 refine fn_intro Tryz.func267 (by kernel_rfl) ?_
 repeat' ((conv => whnf); first
  | refine ldN_lit ?_ | refine nw (fun n => ?_) | refine bld ?_ | refine st_lit rfl ?_ | refine need (by first | rfl | omega) ?_ | refine fin_nil ⟨?_, rfl⟩)
 all_goals first | rfl | exact fin_nil ⟨rfl, rfl⟩
attribute [local irreducible] convert Builtin.copy_ Builtin.append_ Instr.makeSlice rowW t16 t64 rnds
theorem work_ (v0 : S8) (s : ByteArray) (hs : s.size = 64) : Fnc Tryz.prog 268 [.agg (sC v0).toArray, .string s] [] (Ret (.agg (sC (work v0 s)).toArray) []) := by
 have z0 : List.replicate 64 (Value.int .u32 0) = rowW (t16 s 0) := by unfold rowW t16; rfl
 refine fn_intro Tryz.func268 (by kernel_rfl) ?_
 repeat' ((conv => whnf); first
  | refine nw (fun n => ?_))
 revert n; intro wn
 revert n; intro rn
 revert n; intro hn
 refine to_row wn z0 ?_
 refine loop_rule [26] (fun vs M m => ∃ i : Nat, vs = [.int .i64 i] ∧ i ≤ 16 ∧ m = 16 - i ∧ M = [⟨wn, .row (rowW (t16 s i)) 351⟩, ⟨rn, .cells [.int .u32 0, .int .u32 0, .int .u32 0, .int .u32 0, .int .u32 0, .int .u32 0, .int .u32 0, .int .u32 0] 330⟩, ⟨hn, .cells (sC v0) 330⟩]) rfl ?_ ?_
 · exact fin_all ⟨_, 0, rfl, by omega, rfl, rfl⟩
 rintro vs junk M' m ⟨i, rfl, hi, rfl, rfl⟩
 by_cases hi16 : i < 16
 · have t0 : (4 * (i : Int)).toNat = 4 * i := by omega
   have t1 : (4 * (i : Int) + 1).toNat = 4 * i + 1 := by omega
   have t2 : (4 * (i : Int) + 2).toNat = 4 * i + 2 := by omega
   have t3 : (4 * (i : Int) + 3).toNat = 4 * i + 3 := by omega
   repeat' ((conv => whnf); first
    | refine draw_any 5 [(0, true), (1, true), (2, true), (3, true), (4, true), (5, true), (6, true), (7, true), (8, true), (9, true), (10, true), (11, true), (12, true), (13, true), (14, true), (15, true), (16, true), (17, true), (18, true), (19, true), (20, true), (21, true), (22, true), (23, true), (24, true), (25, true), (26, true), (27, true), (28, true), (29, true), (30, true), (31, false)] [] rfl (by kernel_rfl) ?_ | refine kept_nil ?_ | (refine zv (fun z hz => ?_); (first | rw [t0] at hz | rw [t1] at hz | rw [t2] at hz | rw [t3] at hz); subst hz) | (refine wr32 (fun z hz => ?_); subst hz) | refine nv_eq (a := i) (by omega) ?_ | refine st_w16 (by omega) ?_ | refine need (by first | rfl | omega) ?_ | (refine wr (fun z hz => ?_); (try rw [Int.tdiv_eq_ediv_of_nonneg (by omega)] at hz); rw [w64 (by omega) (by omega)] at hz; subst hz) | (refine ifs (fun h => ?_) (fun h => ?_) <;> try (exfalso; first | omega | with_reducible first | contradiction | exact h rfl)))
   all_goals (conv => whnf)
   exact ⟨rfl, fin_all ⟨16 - (i + 1), by omega, i + 1, rfl, by omega, rfl, rfl⟩⟩
 · obtain rfl : i = 16 := by omega
   repeat' ((conv => whnf); first
    | refine loop_rule [7] (fun vs M m => ∃ j : Nat, vs = [.int .i64 ((16 + j : Nat) : Int)] ∧ j ≤ 48 ∧ m = 48 - j ∧ M = [⟨wn, .row (rowW (t64 s j)) 351⟩, ⟨rn, .cells [.int .u32 0, .int .u32 0, .int .u32 0, .int .u32 0, .int .u32 0, .int .u32 0, .int .u32 0, .int .u32 0] 330⟩, ⟨hn, .cells (sC v0) 330⟩]) rfl ?_ ?_ | (refine ifs (fun h => ?_) (fun h => ?_) <;> try (exfalso; first | omega | with_reducible first | contradiction | exact h rfl)))
   · exact fin_all ⟨_, 0, rfl, by omega, rfl, by unfold t64; rfl⟩
   rintro vs junk1 M' m ⟨j, rfl, hj, rfl, rfl⟩
   by_cases hj48 : j < 48
   · repeat' ((conv => whnf); first
      | refine draw_any 10 [(0, true), (1, true), (2, true), (4, true), (5, true), (6, true), (3, true), (8, true), (7, false), (9, true)] _ rfl (by kernel_rfl) (kept1 (n := wn) ?_) | refine draw_tail 15 rfl (by kernel_rfl) ?_ | refine kept1 ?_ | (refine wr32 (fun z hz => ?_); subst hz) | refine nv_eq (a := 16 + j) (by omega) ?_ | refine nv_eq (a := 16 + j - 15) (by omega) ?_ | refine nv_eq (a := 16 + j - 2) (by omega) ?_ | refine nv_eq (a := 16 + j - 16) (by omega) ?_ | refine nv_eq (a := 16 + j - 7) (by omega) ?_ | refine fld1_row (rowW_at (by omega)) ?_ | refine qld1_row (rowW_at (by omega)) ?_ | refine ld1_row (rowW_at (by omega)) ?_ | refine st_w64 (by omega) ?_ | refine need (by first | rfl | omega) ?_ | (refine wr (fun z hz => ?_); (try rw [Int.tdiv_eq_ediv_of_nonneg (by omega)] at hz); rw [w64 (by omega) (by omega)] at hz; subst hz) | (refine zv (fun z hz => ?_); (try rw [Int.tmod_eq_emod_of_nonneg (by omega)] at hz); subst hz) | (refine ifs (fun h => ?_) (fun h => ?_) <;> try (exfalso; first | omega | with_reducible first | contradiction | exact h rfl)))
     all_goals (conv => whnf)
     exact ⟨rfl, fin_all ⟨48 - (j + 1), by omega, j + 1, by congr 2, by omega, rfl, rfl⟩⟩
   · obtain rfl : j = 48 := by omega
     have zk : kV = rowW kF := by unfold rowW; rfl
     repeat' ((conv => whnf); first
      | refine call_val consts ?_ | refine draw_any 15 [(0, true), (2, true), (4, true), (6, true), (8, true), (10, true), (12, true), (14, true), (1, true), (16, true), (3, true), (17, true), (5, true), (18, true), (7, true), (19, true), (9, true), (20, true), (11, true), (21, true), (13, true), (22, true), (15, false), (23, true)] _ rfl (by kernel_rfl) (kept1 (n := hn) ?_) | refine kept1 ?_ | refine fld1 ?_ | (refine nv (fun z hz => ?_); (try simp at hz); replace hz := hz.symm; subst hz) | refine ld1_lit ?_ | refine nw (fun n => ?_) | refine st_lit rfl ?_ | refine need (by first | rfl | omega) ?_ | (refine ifs (fun h => ?_) (fun h => ?_) <;> try (exfalso; first | omega | with_reducible first | contradiction | exact h rfl)))
     revert n; intro ln
     refine to_row ln zk ?_
     refine loop_rule [133, 13, 14, 15, 16, 17, 18, 19, 20] (fun vs M m => ∃ (i : Nat) (x : S8), vs = .int .i64 i :: sC x ∧ x = rnds v0 (t64 s 48) i ∧ i ≤ 64 ∧ m = 64 - i ∧ M = [⟨ln, .row (rowW kF) 351⟩, ⟨wn, .row (rowW (t64 s 48)) 351⟩, ⟨rn, .cells [.int .u32 0, .int .u32 0, .int .u32 0, .int .u32 0, .int .u32 0, .int .u32 0, .int .u32 0, .int .u32 0] 330⟩, ⟨hn, .cells (sC v0) 330⟩]) rfl ?_ ?_
     · exact fin_all ⟨_, 0, v0, rfl, by unfold rnds; rfl, by omega, rfl, rfl⟩
     rintro vs junk2 M' m ⟨i, x, rfl, hx, hi, rfl, rfl⟩
     by_cases hi64 : i < 64
     · obtain ⟨lv, el⟩ : ∃ z, z = kF i := ⟨_, rfl⟩
       obtain ⟨wv, ew⟩ : ∃ z, z = t64 s 48 i := ⟨_, rfl⟩
       have hl : (rowW kF)[i]? = some (.int .u32 lv) := by rw [el]; exact rowW_at hi64
       have hw : (rowW (t64 s 48))[i]? = some (.int .u32 wv) := by rw [ew]; exact rowW_at hi64
       repeat' ((conv => whnf); first
        | refine draw_any 20 [(0, true), (1, true), (2, true), (3, true), (4, true), (5, true), (6, true), (7, true), (8, true), (9, true), (10, true), (11, true), (12, true), (13, true), (16, true), (17, true), (14, true), (15, true), (18, false), (19, true), (20, true)] _ rfl (by kernel_rfl) (kept1 (n := ln) ?_) | refine kept1 ?_ | (refine wr32 (fun z hz => ?_); subst hz) | refine nv_eq (a := i) (by omega) ?_ | refine fld1_row hl ?_ | refine ld1_row hw ?_ | refine need (by first | rfl | omega) ?_ | (refine wr (fun z hz => ?_); (try rw [Int.tdiv_eq_ediv_of_nonneg (by omega)] at hz); rw [w64 (by omega) (by omega)] at hz; subst hz) | (refine zv (fun z hz => ?_); (try rw [Int.tmod_eq_emod_of_nonneg (by omega)] at hz); subst hz) | (refine ifs (fun h => ?_) (fun h => ?_) <;> try (exfalso; first | omega | with_reducible first | contradiction | exact h rfl)))
       all_goals (conv => whnf)
       exact ⟨rfl, fin_all ⟨64 - (i + 1), by omega, i + 1, rnd x lv wv, rfl, by rw [hx, el, ew, rnds_succ], by omega, rfl, rfl⟩⟩
     · obtain rfl : i = 64 := by omega
       repeat' ((conv => whnf); first
        | (refine wr32 (fun z hz => ?_); subst hz) | (refine nv (fun z hz => ?_); (try simp at hz); replace hz := hz.symm; subst hz) | refine ld1_lit ?_ | refine ldN_lit ?_ | refine bld ?_ | refine st_lit rfl ?_ | refine need (by first | rfl | omega) ?_ | (refine ifs (fun h => ?_) (fun h => ?_) <;> try (exfalso; first | omega | with_reducible first | contradiction | exact h rfl)))
       all_goals (conv => whnf)
       subst hx
       exact fin_nil ⟨rfl, rfl⟩
end Sha
end Go.Proofs.YtkjamonkohpcnaaGreat
