/- Texts of this proof, merged. -/
import Derived.Test.YtkjamonkohpcnaaGreatAk2
import Derived.StillTail
set_option linter.unusedVariables false
set_option linter.unusedSimpArgs false
set_option linter.unusedSectionVars false
set_option maxRecDepth 100000
set_option maxHeartbeats 16000000
namespace Go.Proofs.YtkjamonkohpcnaaGreat
namespace Ev
open Go
structure Nw (cs : List Value) (e : TypeId) (M : List Blk) (k : Nat → List Blk → Prop) : Prop where
 out : (∀ n : Nat, k n (⟨n, .cells cs e⟩ :: M)) ∨ ∃ cs', cs' = cs ∧ ∀ n : Nat, k n (⟨n, .row cs' e⟩ :: M)
theorem nw {cs : List Value} {e : TypeId} {M : List Blk} {k : Nat → List Blk → Prop} (h : ∀ n : Nat, k n (⟨n, .cells cs e⟩ :: M)) : Nw cs e M k := ⟨.inl h⟩
theorem nw_row {cs cs' : List Value} {e : TypeId} {M : List Blk} {k : Nat → List Blk → Prop} (he : cs' = cs) (h : ∀ n : Nat, k n (⟨n, .row cs' e⟩ :: M)) : Nw cs e M k := ⟨.inr ⟨cs', he, h⟩⟩
def std (P : Program) : Md := { ld1 := Ld1, ldN := LdN, stN := StN P, nw := Nw, cl := Cl P, runs := Runs P, pan := id }
theorem std_sound (P : Program) : (std P).Sound P where
 val v h hk := Runs.val h hk
 congr h hr := Runs.congr h hr
 ld1 {s M b off k pan} h hs := by
  show Runs P s M k pan
  have h : Ld1 M b off (fun v => k v M) := h
  have h := h.out
  refine ⟨fun A w0 w st => ?_⟩
  obtain ⟨v, hc, hk⟩ := h A w0 w st
  rw [hs v w hc]
  exact ⟨M, st, hk⟩
 ldN {s M b off n k pan} h hs := by
  show Runs P s M k pan
  have h : LdN M b off n (fun vs => k (.agg vs.toArray) M) := h
  have h := h.out
  refine ⟨fun A w0 w st => ?_⟩
  obtain ⟨vs, hl, hc, hk⟩ := h A w0 w st
  rw [hs vs w hl hc]
  exact ⟨M, st, hk⟩
 stN {s M b off vs k pan} h hs := by
  show Runs P s M k pan
  have h : StN P M b off vs (fun M' => k undef M') := h
  have h := h.out
  refine ⟨fun A w0 w st => ?_⟩
  obtain ⟨w', M', hr, st', hk⟩ := h A w0 w st
  rw [hs w w' hr]
  exact ⟨M', st', hk⟩
 nw {s M cs e k pan} vf h hs := by
  show Runs P s M k pan
  have h : Nw cs e M (fun n M' => k (vf n) M') := h
  refine ⟨fun A w0 w st => ?_⟩
  rw [hs w]
  rcases h.out with h1 | ⟨cs', rfl, h1⟩
  · exact ⟨_, st.new (.cells cs.toArray e) (.cells cs e) (by simp [Blk.holds]), h1 _⟩
  · exact ⟨_, st.new (.cells cs'.toArray e) (.row cs' e) (by simp [Blk.holds]), h1 _⟩
 cl {s M g l k pan} h hs := by
  show Runs P s M k pan
  have h : Cl P g l M k pan := h
  have h := h.out
  refine ⟨fun A w0 w st => ?_⟩
  rw [hs h.1 w]
  exact (h.2 A w0 w st).mono fun e w' he => by cases e <;> exact he
 pan {s M v k pan} h hs := by
  show Runs P s M k pan
  refine ⟨fun A w0 w st => ?_⟩
  rw [hs w]
  exact ⟨M, st, h⟩
structure QCl (P : Program) (f : FuncId) (args : List Value) (M : List Blk) (k : Kv) : Prop where
 out : enters P f = true ∧ ∃ v, (∀ A w0 w, St A w0 w M → Calls P f args.toArray w fun e w' => e = .returned v ∧ St A w0 w' M) ∧ k v M
structure QLd1 (M : List Blk) (b off : Nat) (k : Value → Prop) : Prop where
 out : ∃ v, (∀ A w0 w, St A w0 w M → w.cell? ⟨b, off, none⟩ = some v) ∧ k v
structure QLdN (M : List Blk) (b off n : Nat) (k : List Value → Prop) : Prop where
 out : ∃ vs : List Value, vs.length = n ∧ (∀ A w0 w, St A w0 w M → ∀ j v, vs[j]? = some v → w.cell? ⟨b, off + j, none⟩ = some v) ∧ k vs
structure QRuns (P : Program) (s : Sem Next) (M : List Blk) (k : Kv) : Prop where
 out : ∃ v, (∀ A w0 w, St A w0 w M → Oper.quietUpon P (fun w' => St A w0 w' M) w v (s.run P w)) ∧ k v M
def qt (P : Program) : Md := { ld1 := QLd1, ldN := QLdN, stN := fun _ _ _ _ _ => False, nw := fun _ _ _ _ => False, cl := fun f l M k _ => QCl P f l M k, runs := fun s M k _ => QRuns P s M k, pan := fun _ => False }
theorem qt_sound (P : Program) : (qt P).Sound P where
 val {s M k pan} v h hk := by
  show QRuns P s M k
  exact ⟨v, fun A w0 w st => by rw [h w]; exact ⟨rfl, rfl⟩, hk⟩
 congr {s s' M k pan} h hr := by
  show QRuns P s M k
  have hr : QRuns P s' M k := hr
  obtain ⟨v, h1, h2⟩ := hr.out
  refine ⟨v, fun A w0 w st => by rw [h w]; exact h1 A w0 w st, h2⟩
 ld1 {s M b off k pan} h hs := by
  show QRuns P s M k
  have h : QLd1 M b off (fun v => k v M) := h
  have h := h.out
  obtain ⟨v, h1, h2⟩ := h
  exact ⟨v, fun A w0 w st => by rw [hs v w (h1 A w0 w st)]; exact ⟨rfl, rfl⟩, h2⟩
 ldN {s M b off n k pan} h hs := by
  show QRuns P s M k
  have h : QLdN M b off n (fun vs => k (.agg vs.toArray) M) := h
  have h := h.out
  obtain ⟨vs, h0, h1, h2⟩ := h
  exact ⟨.agg vs.toArray, fun A w0 w st => by rw [hs vs w h0 (h1 A w0 w st)]; exact ⟨rfl, rfl⟩, h2⟩
 stN h hs := h.elim
 nw _ h hs := h.elim
 cl {s M g l k pan} h hs := by
  show QRuns P s M k
  have h : QCl P g l M k := h
  have h := h.out
  obtain ⟨he, v, h1, h2⟩ := h
  exact ⟨v, fun A w0 w st => by rw [hs he w]; exact ⟨rfl, h1 A w0 w st⟩, h2⟩
 pan h hs := h.elim
theorem beqf {a b : Nat} (h : ¬ a = b) : Nat.beq a b = false := by
 cases hb : Nat.beq a b with
 | false => rfl
 | true => exact absurd (Nat.eq_of_beq_eq_true hb) h
noncomputable def gdK (ops : List Oper) (fr : List Value) (g : Option (Nat × Bool)) (yes no : Prop) : Prop :=
 match g with
 | none => yes
 | some (j, want) =>
   match ops[j]? with
   | none => no
   | some o =>
     match o.dst with
     | none => no
     | some d => getK fr d fun v =>
       match v with
       | .bool true => (match want with | true => yes | false => no)
       | .bool false => (match want with | true => no | false => yes)
       | _ => no
theorem yielded_of {ops : List Oper} {fr : List Value} {j d : Nat} {o : Oper} (hj : ops[j]? = some o) (hd : o.dst = some d) :
 yielded ops.toArray fr.toArray j = (match fr.toArray.getD d undef with | .bool b => some b | _ => none) := by
 unfold yielded
 simp only [List.getElem?_toArray, hj, Option.bind_some, hd]
 by_cases hlt : d < fr.length
 · have e1 : fr.toArray.getD d undef = fr[d] := by simp [hlt]
   have e2 : fr[d]? = some fr[d] := List.getElem?_eq_getElem hlt
   rw [e1, e2]
   cases fr[d] <;> rfl
 · have e1 : fr.toArray.getD d undef = undef := by simp [hlt]
   have e2 : fr[d]? = none := List.getElem?_eq_none (by omega)
   rw [e1, e2]
   rfl
theorem gdK_out {ops : List Oper} {fr : List Value} {o : Oper} {yes no : Prop} (h : gdK ops fr o.guard yes no) :
 (Region.wanted o (yielded ops.toArray fr.toArray) = true ∧ yes) ∨ (Region.wanted o (yielded ops.toArray fr.toArray) = false ∧ no) := by
 unfold Region.wanted
 unfold gdK at h
 cases hg : o.guard with
 | none => rw [hg] at h; exact .inl ⟨rfl, h⟩
 | some g =>
   rw [hg] at h
   obtain ⟨j, want⟩ := g
   simp only at h ⊢
   cases hj : ops[j]? with
   | none =>
     rw [hj] at h
     exact .inr ⟨by simp [yielded, hj], h⟩
   | some oj =>
     rw [hj] at h
     simp only at h
     cases hd : oj.dst with
     | none => rw [hd] at h; exact .inr ⟨by simp [yielded, hj, hd], h⟩
     | some d =>
       rw [hd] at h
       simp only [getK_eq] at h
       rw [yielded_of hj hd]
       generalize fr.toArray.getD d undef = v at h ⊢
       split at h
       · cases want
         · exact .inr ⟨rfl, h⟩
         · exact .inl ⟨rfl, h⟩
       · cases want
         · exact .inl ⟨rfl, h⟩
         · exact .inr ⟨rfl, h⟩
       · rename_i n1 n2
         cases v with
         | bool b => cases b; exact (n2 rfl).elim; exact (n1 rfl).elim
         | _ => exact .inr ⟨rfl, h⟩
noncomputable def putK (dst : Option Tmp) (fr : List Value) (v : Value) (k : List Value → Prop) : Prop :=
 match dst with
 | some d => setK fr d v k
 | none => k fr
theorem putK_out {dst : Option Tmp} {fr : List Value} {v : Value} {k : List Value → Prop} {ds : List Deferred} (h : putK dst fr v k) :
 ∃ fr' : List Value, (⟨fr.toArray, ds⟩ : Act).put dst v = ⟨fr'.toArray, ds⟩ ∧ k fr' := by
 cases dst with
 | none => exact ⟨fr, rfl, h⟩
 | some d =>
   simp only [putK, setK_eq] at h
   exact ⟨_, by simp [Act.put], h⟩
noncomputable def ow (md : Md) (P : Program) (ops os : List Oper) : List Value → List Blk → Ks → Prop :=
 List.rec (fun fr M K => K .normal fr M) (fun o _ ih fr M K => gdK ops fr o.guard
  (opK md P fr M o (fun v M' => putK o.dst fr v fun fr' => ih fr' M' K) (fun ch M' => K (.panic ch) fr M'))
  (putK o.dst fr undef fun fr' => ih fr' M K)) os
theorem ow_cons (md : Md) (P : Program) (ops os : List Oper) (o : Oper) (fr : List Value) (M : List Blk) (K : Ks) : ow md P ops (o :: os) fr M K = gdK ops fr o.guard
 (opK md P fr M o (fun v M' => putK o.dst fr v fun fr' => ow md P ops os fr' M' K) (fun ch M' => K (.panic ch) fr M'))
 (putK o.dst fr undef fun fr' => ow md P ops os fr' M K) := rfl
def QQ (A : List Blk) (w0 : World) (ds : List Deferred) (K : Ks) : Exit → Act → World → Prop :=
 fun e a w => ∃ fr M, a = ⟨fr.toArray, ds⟩ ∧ St A w0 w M ∧ K e fr M
theorem ow_sound {P : Program} {ops : List Oper} {K : Ks} : ∀ (os : List Oper) (fr : List Value) (M : List Blk), ow (std P) P ops os fr M K → ∀ A w0 w ds, St A w0 w M →
 wpList P ops.toArray (QQ A w0 ds K) os ⟨fr.toArray, ds⟩ w
 | [], fr, M, h, A, w0, w, ds, st => ⟨fr, M, rfl, st, h⟩
 | o :: os, fr, M, h, A, w0, w, ds, st => by
   rw [ow_cons] at h
   unfold wpList
   rcases gdK_out h with ⟨hw, h⟩ | ⟨hw, h⟩
   · rw [if_pos hw]
     have hr : Runs P (execOp (Act.eval ⟨fr.toArray, []⟩) o) M _ _ := opK_sound (std_sound P) h
     rw [← eval_nil' fr ds] at hr
     refine .inl (wp_of_runs hr st (fun v w' M' st' hk => ?_) fun ch w' M' st' hk => ⟨fr, M', rfl, st', hk⟩)
     obtain ⟨fr', e, hk'⟩ := putK_out (ds := ds) hk
     rw [e]
     exact ow_sound os fr' M' hk' A w0 w' ds st'
   · rw [if_neg (by simp [hw])]
     obtain ⟨fr', e, hk'⟩ := putK_out (ds := ds) h
     rw [e]
     exact ow_sound os fr' M hk' A w0 w ds st
theorem qw_sound {P : Program} {ops : List Oper} {K : Ks} : ∀ (os : List Oper) (fr : List Value) (M : List Blk), ow (qt P) P ops os fr M K → ∀ A w0 ds,
 wpQuiet P ops.toArray (fun w' => St A w0 w' M) (fun a => ∃ fr', a = ⟨fr'.toArray, ds⟩ ∧ K .normal fr' M) os ⟨fr.toArray, ds⟩
 | [], fr, M, h, A, w0, ds => ⟨fr, rfl, h⟩
 | o :: os, fr, M, h, A, w0, ds => by
   rw [ow_cons] at h
   unfold wpQuiet
   rcases gdK_out h with ⟨hw, h⟩ | ⟨hw, h⟩
   · rw [if_pos hw]
     have hr : QRuns P (execOp (Act.eval ⟨fr.toArray, []⟩) o) M _ := opK_sound (qt_sound P) h
     rw [← eval_nil' fr ds] at hr
     obtain ⟨v, h1, h2⟩ := hr.out
     obtain ⟨fr', e, hk'⟩ := putK_out (ds := ds) h2
     refine ⟨v, fun w st => h1 A w0 w st, ?_⟩
     rw [e]
     exact qw_sound os fr' M hk' A w0 ds
   · rw [if_neg (by simp [hw])]
     obtain ⟨fr', e, hk'⟩ := putK_out (ds := ds) h
     rw [e]
     exact qw_sound os fr' M hk' A w0 ds
structure CodeW (P : Program) (c : Code) (fr : List Value) (M : List Blk) (K : Ks) : Prop where
 out : ∀ A w0 w ds, St A w0 w M → c.wp P (QQ A w0 ds K) ⟨fr.toArray, ds⟩ w
noncomputable def cw (P : Program) (c : Code) : List Value → List Blk → Ks → Prop :=
 Code.rec (motive := fun _ => List Value → List Blk → Ks → Prop)
  (fun fr M K => K .normal fr M)
  (fun id ops draw fr M K => match draw with
    | false => ow (std P) P ops.toList ops.toList fr M K
    | true => CodeW P (.region id ops true) fr M K)
  (fun _ _ iha ihb fr M K => iha fr M fun e fr' M' => match e with
    | .normal => ihb fr' M' K
    | e => K e fr' M')
  (fun c _ _ iha ihb fr M K => evK fr c fun v => match v with
    | .bool true => iha fr M K
    | .bool false => ihb fr M K
    | _ => False)
  (fun id _ ih fr M K => ih fr M fun e fr' M' => match e with
    | .exit i => (match Nat.beq i id with | true => K .normal fr' M' | false => K (.exit i) fr' M')
    | e => K e fr' M')
  (fun c _ fr M K => CodeW P (.loop c) fr M K)
  (fun f p a b _ _ fr M K => CodeW P (.rangeFunc f p a b) fr M K)
  (fun i fr M K => K (.exit i) fr M)
  (fun c _ fr M K => CodeW P (.scope c) fr M K)
  (fun _ fr M K => K .normal fr M)
  (fun l fr M K => K (.goto l) fr M)
  (fun fr M K => K .ret fr M)
  (fun s fr M K => CodeW P (.refuse s) fr M K) c
theorem cw_sound {P : Program} : ∀ (c : Code) (fr : List Value) (M : List Blk) (K : Ks), cw P c fr M K → ∀ A w0 w ds, St A w0 w M → c.wp P (QQ A w0 ds K) ⟨fr.toArray, ds⟩ w
 | .skip, fr, M, K, h, A, w0, w, ds, st => wp_skip ⟨fr, M, rfl, st, h⟩
 | .region id ops false, fr, M, K, h, A, w0, w, ds, st => wp_region_list (by
    have := ow_sound ops.toList fr M h A w0 w ds st
    simpa using this)
 | .region id ops true, fr, M, K, h, A, w0, w, ds, st => by
   have h : CodeW P (.region id ops true) fr M K := h
   exact h.out A w0 w ds st
 | .seq a b, fr, M, K, h, A, w0, w, ds, st => by
   refine wp_seq (wp_mono (cw_sound a fr M _ h A w0 w ds st) fun e a' w' hq => ?_)
   obtain ⟨fr', M', rfl, st', hk⟩ := hq
   cases e with
   | normal => exact cw_sound b fr' M' K hk A w0 w' ds st'
   | _ => exact ⟨fr', M', rfl, st', hk⟩
 | .cond c a b, fr, M, K, h, A, w0, w, ds, st => by
   have h : evK fr c (fun v => match v with | .bool true => cw P a fr M K | .bool false => cw P b fr M K | _ => False) := h
   rw [evK_eq fr ds] at h
   split at h
   · rename_i hc; exact wp_cond_true hc (cw_sound a fr M K h A w0 w ds st)
   · rename_i hc; exact wp_cond_false hc (cw_sound b fr M K h A w0 w ds st)
   · exact h.elim
 | .block id c, fr, M, K, h, A, w0, w, ds, st => by
   refine wp_block (wp_mono (cw_sound c fr M _ h A w0 w ds st) fun e a' w' hq => ?_)
   obtain ⟨fr', M', rfl, st', hk⟩ := hq
   cases e with
   | exit i =>
     simp only [Exit.inBlock]
     by_cases hi : i = id
     · subst hi
       rw [if_pos rfl]
       simp only [Nat.beq_refl] at hk
       exact ⟨fr', M', rfl, st', hk⟩
     · rw [if_neg hi]
       have : Nat.beq i id = false := beqf hi
       simp only [this] at hk
       exact ⟨fr', M', rfl, st', hk⟩
   | _ => exact ⟨fr', M', rfl, st', hk⟩
 | .loop c, fr, M, K, h, A, w0, w, ds, st => by
   have h : CodeW P (.loop c) fr M K := h
   exact h.out A w0 w ds st
 | .exit i, fr, M, K, h, A, w0, w, ds, st => wp_exit ⟨fr, M, rfl, st, h⟩
 | .ret, fr, M, K, h, A, w0, w, ds, st => wp_ret ⟨fr, M, rfl, st, h⟩
 | .goto l, fr, M, K, h, A, w0, w, ds, st => wp_goto ⟨fr, M, rfl, st, h⟩
 | .label l, fr, M, K, h, A, w0, w, ds, st => wp_label ⟨fr, M, rfl, st, h⟩
 | .scope c, fr, M, K, h, A, w0, w, ds, st => by
   have h : CodeW P (.scope c) fr M K := h
   exact h.out A w0 w ds st
 | .rangeFunc f p a b, fr, M, K, h, A, w0, w, ds, st => by
   have h : CodeW P (.rangeFunc f p a b) fr M K := h
   exact h.out A w0 w ds st
 | .refuse s, fr, M, K, h, A, w0, w, ds, st => by
   have h : CodeW P (.refuse s) fr M K := h
   exact h.out A w0 w ds st
theorem draw_quiet {P : Program} {id : Nat} {ops : Array Oper} {fr : List Value} {M : List Blk} {K : Ks} (hm : P.follows .mixedOrders = true) (hB : Region.lexB .any ops = true)
 (h : ow (qt P) P ops.toList ops.toList fr M K) : CodeW P (.region id ops true) fr M K := by
 refine ⟨fun A w0 w ds st => ?_⟩
 refine wp_region_quiet (C := fun w' => St A w0 w' M) hm hB (st.drew _) ?_
 have h1 := qw_sound ops.toList fr M h A w0 ds
 have mono : ∀ (os : List Oper) (a : Act) (Q Q' : Act → Prop), (∀ a, Q a → Q' a) → wpQuiet P ops (fun w' => St A w0 w' M) Q os a → wpQuiet P ops (fun w' => St A w0 w' M) Q' os a := by
  intro os
  induction os with
  | nil => exact fun a Q Q' hq h => hq _ h
  | cons o os ih =>
    intro a Q Q' hq h
    unfold wpQuiet at h ⊢
    split
    · rename_i hw; rw [if_pos hw] at h; exact Oper.quiet_mono (fun a h => ih a Q Q' hq h) h
    · rename_i hw; rw [if_neg hw] at h; exact ih _ Q Q' hq h
 refine mono _ _ _ _ (fun a ha w' st' => ?_) (by simpa using h1)
 obtain ⟨fr', rfl, hk⟩ := ha
 exact ⟨fr', M, rfl, st', hk⟩
structure SRuns (P : Program) (s : Sem Next) (M : List Blk) (k : Kv) : Prop where
 out : ∃ v, (∀ A w0 w, St A w0 w M → s.run P w = .ok (.value v) w) ∧ k v M
def sl (P : Program) : Md := { ld1 := QLd1, ldN := QLdN, stN := fun _ _ _ _ _ => False, nw := fun _ _ _ _ => False, cl := fun _ _ _ _ _ => False, runs := fun s M k _ => SRuns P s M k, pan := fun _ => False }
theorem sl_sound (P : Program) : (sl P).Sound P where
 val {s M k pan} v h hk := by
  show SRuns P s M k
  exact ⟨v, fun A w0 w st => h w, hk⟩
 congr {s s' M k pan} h hr := by
  show SRuns P s M k
  have hr : SRuns P s' M k := hr
  obtain ⟨v, h1, h2⟩ := hr.out
  exact ⟨v, fun A w0 w st => by rw [h w]; exact h1 A w0 w st, h2⟩
 ld1 {s M b off k pan} h hs := by
  show SRuns P s M k
  have h : QLd1 M b off (fun v => k v M) := h
  obtain ⟨v, h1, h2⟩ := h.out
  exact ⟨v, fun A w0 w st => hs v w (h1 A w0 w st), h2⟩
 ldN {s M b off n k pan} h hs := by
  show SRuns P s M k
  have h : QLdN M b off n (fun vs => k (.agg vs.toArray) M) := h
  obtain ⟨vs, h0, h1, h2⟩ := h.out
  exact ⟨.agg vs.toArray, fun A w0 w st => hs vs w h0 (h1 A w0 w st), h2⟩
 stN h hs := h.elim
 nw _ h hs := h.elim
 cl h hs := h.elim
 pan h hs := h.elim
theorem sw_sound {P : Program} {ops : List Oper} {K : Ks} {A : List Blk} {w0 w : World} {ds : List Deferred} : ∀ (os : List Oper) (fr : List Value) (M : List Blk), ow (sl P) P ops os fr M K → St A w0 w M →
 wpStill P ops.toArray w (fun a => ∃ fr', a = ⟨fr'.toArray, ds⟩ ∧ K .normal fr' M) os ⟨fr.toArray, ds⟩
 | [], fr, M, h, st => ⟨fr, rfl, h⟩
 | o :: os, fr, M, h, st => by
   rw [ow_cons] at h
   unfold wpStill
   rcases gdK_out h with ⟨hw, h⟩ | ⟨hw, h⟩
   · rw [if_pos hw]
     have hr : SRuns P (execOp (Act.eval ⟨fr.toArray, []⟩) o) M _ := opK_sound (sl_sound P) h
     rw [← eval_nil' fr ds] at hr
     obtain ⟨v, h1, h2⟩ := hr.out
     obtain ⟨fr', e, hk'⟩ := putK_out (ds := ds) h2
     unfold Oper.still
     rw [h1 A w0 w st]
     refine ⟨rfl, ?_⟩
     rw [e]
     exact sw_sound os fr' M hk' st
   · rw [if_neg (by simp [hw])]
     obtain ⟨fr', e, hk'⟩ := putK_out (ds := ds) h
     rw [e]
     exact sw_sound os fr' M hk' st
theorem still_mono' {P : Program} {ops : Array Oper} {w : World} {Q Q' : Act → Prop} (hq : ∀ a, Q a → Q' a) : ∀ (os : List Oper) (a : Act), wpStill P ops w Q os a → wpStill P ops w Q' os a
 | [], a, h => hq _ h
 | o :: os, a, h => by
   unfold wpStill at h ⊢
   split
   · rename_i hw; rw [if_pos hw] at h; exact Oper.still_mono (fun a h => still_mono' hq os a h) h
   · rename_i hw; rw [if_neg hw] at h; exact still_mono' hq os _ h
theorem draw_tail (n : Nat) {P : Program} {id : Nat} {ops : List Oper} {fr : List Value} {M : List Blk} {K : Ks} (hm : P.follows .mixedOrders = true) (hB : Region.lexTailB .any ops.toArray n = true)
 (h : ow (sl P) P ops (ops.take n) fr M fun _ fr' M' => ow (std P) P ops (ops.drop n) fr' M' K) : CodeW P (.region id ops.toArray true) fr M K := by
 refine ⟨fun A w0 w ds st => ?_⟩
 refine wp_region_still_tail n hm hB ?_
 refine still_mono' (fun a ha => ?_) _ _ (sw_sound (ops.take n) fr M h (st.drew _))
 obtain ⟨fr', rfl, hk⟩ := ha
 exact ow_sound (ops.drop n) fr' M hk A w0 _ ds (st.drew _)
structure Fin (M : List Blk) (Q : List Blk → Prop) : Prop where
 out : ∃ A' R, M.Perm (A' ++ R) ∧ Q A'
theorem fin_out {A M : List Blk} {w0 w : World} {Q : List Blk → Prop} (st : St A w0 w M) (h : Fin M Q) : ∃ A', St A w0 w A' ∧ Q A' := by
 obtain ⟨A', R, hp, hq⟩ := h.out
 exact ⟨A', (st.perm hp).left, hq⟩
theorem fin_pick {M A' R : List Blk} {Q : List Blk → Prop} (ht : Takes M A' R) (h : Q A') : Fin M Q := ⟨⟨A', R, ht.perm, h⟩⟩
theorem fin_nil {M : List Blk} {Q : List Blk → Prop} (h : Q []) : Fin M Q := fin_pick .nil h
theorem fin_all {M : List Blk} {Q : List Blk → Prop} (h : Q M) : Fin M Q := ⟨⟨M, [], by simp, h⟩⟩
theorem fin_drop {b : Blk} {M : List Blk} {Q : List Blk → Prop} (h : Fin M Q) : Fin (b :: M) Q := by
 obtain ⟨A', R, hp, hq⟩ := h.out
 exact ⟨⟨A', b :: R, (hp.cons b).trans List.perm_middle.symm, hq⟩⟩
noncomputable def dsts (c : Code) : List Nat :=
 Code.rec (motive := fun _ => List Nat) [] (fun _ ops _ => ops.toList.filterMap (·.dst)) (fun _ _ a b => a ++ b) (fun _ _ _ a b => a ++ b) (fun _ _ a => a) (fun _ a => a) (fun _ _ _ _ _ _ => []) (fun _ => []) (fun _ a => a) (fun _ => []) (fun _ => []) [] (fun _ => []) c
noncomputable def memB (n : Nat) (l : List Nat) : Bool := List.rec false (fun x _ ih => match Nat.beq x n with | true => true | false => ih) l
theorem memB_cons (n x : Nat) (t : List Nat) : memB n (x :: t) = (match Nat.beq x n with | true => true | false => memB n t) := rfl
theorem memB_mem {n : Nat} : ∀ {l : List Nat}, memB n l = true → n ∈ l
 | [], h => by cases h
 | x :: t, h => by
   rw [memB_cons] at h
   by_cases e : x = n
   · subst e; simp
   · rw [beqf e] at h
     exact List.mem_cons_of_mem _ (memB_mem h)
noncomputable def pickV (n : Nat) (l : List Nat) : List Value → Option Value :=
 List.rec (fun _ => none) (fun x _ ih vs => match vs with | [] => none | v :: vs => (match Nat.beq x n with | true => some v | false => ih vs)) l
theorem pickV_cons (n x : Nat) (t : List Nat) (v : Value) (vs : List Value) : pickV n (x :: t) (v :: vs) = (match Nat.beq x n with | true => some v | false => pickV n t vs) := rfl
noncomputable def havoc (ds sel : List Nat) (vs : List Value) (junk : Nat → Value) : List Value → Nat → List Value
 | [], _ => []
 | v :: t, i => (match pickV i sel vs with | some u => u | none => (match memB i ds with | true => junk i | false => v)) :: havoc ds sel vs junk t (i + 1)
noncomputable def havocK (ds sel : List Nat) (vs : List Value) (junk : Nat → Value) (l : List Value) : Nat → (List Value → Prop) → Prop :=
 List.rec (fun _ k => k []) (fun v _ ih i k => match pickV i sel vs with
  | some u => ih (i + 1) fun l => k (u :: l)
  | none => match memB i ds with
    | true => ih (i + 1) fun l => k (junk i :: l)
    | false => ih (i + 1) fun l => k (v :: l)) l
theorem havocK_cons (ds sel : List Nat) (vs : List Value) (junk : Nat → Value) (v : Value) (t : List Value) (i : Nat) (k : List Value → Prop) : havocK ds sel vs junk (v :: t) i k = (match pickV i sel vs with
 | some u => havocK ds sel vs junk t (i + 1) fun l => k (u :: l)
 | none => match memB i ds with
   | true => havocK ds sel vs junk t (i + 1) fun l => k (junk i :: l)
   | false => havocK ds sel vs junk t (i + 1) fun l => k (v :: l)) := rfl
theorem havocK_eq (ds sel : List Nat) (vs : List Value) (junk : Nat → Value) : ∀ (fr : List Value) (i : Nat) (k : List Value → Prop), havocK ds sel vs junk fr i k = k (havoc ds sel vs junk fr i)
 | [], i, k => rfl
 | v :: t, i, k => by
   rw [havocK_cons]
   unfold havoc
   split
   · rename_i u hu; rw [havocK_eq ds sel vs junk t]
   · split
     · rw [havocK_eq ds sel vs junk t]
     · rw [havocK_eq ds sel vs junk t]
noncomputable def getsK (fr : List Value) (l : List Nat) : (List Value → Prop) → Prop :=
 List.rec (fun k => k []) (fun n _ ih k => getK fr n fun v => ih fun l => k (v :: l)) l
theorem getsK_eq (fr : List Value) : ∀ (l : List Nat) (k : List Value → Prop), getsK fr l k = k (l.map fun n => fr.toArray.getD n undef)
 | [], k => rfl
 | n :: t, k => by show getK fr n (fun v => getsK fr t fun l => k (v :: l)) = _; rw [getK_eq, getsK_eq fr t]; rfl
noncomputable def agree (ds : List Nat) (l : List Value) : List Value → Nat → Prop :=
 List.rec (fun m _ => match m with | [] => True | _ :: _ => False) (fun a _ ih m i => match m with
  | [] => False
  | b :: t => match memB i ds with
    | true => ih t (i + 1)
    | false => a = b ∧ ih t (i + 1)) l
theorem agree_cons (ds : List Nat) (a b : Value) (s t : List Value) (i : Nat) : agree ds (a :: s) (b :: t) i = (match memB i ds with
 | true => agree ds s t (i + 1)
 | false => a = b ∧ agree ds s t (i + 1)) := rfl
theorem havoc_id (ds sel : List Nat) : ∀ (fr fr' : List Value) (i : Nat), agree ds fr fr' i → (∀ n, n ∈ sel → memB n ds = true) →
 havoc ds sel (sel.map fun n => if i ≤ n then fr'.toArray.getD (n - i) undef else undef) (fun n => fr'.toArray.getD (n - i) undef) fr i = fr' := by
 intro fr
 induction fr with
 | nil => intro fr' i h _; cases fr' with | nil => rfl | cons b t => exact h.elim
 | cons a s ih =>
   intro fr' i h hsel
   cases fr' with
   | nil => exact h.elim
   | cons b t =>
     rw [agree_cons] at h
     have hpick : ∀ (l : List Nat), (∀ n ∈ l, n ∈ sel) → pickV i l (l.map fun n => if i ≤ n then (b :: t).toArray.getD (n - i) undef else undef) = (match memB i l with | true => some b | false => none) := by
      intro l
      induction l with
      | nil => intro _; rfl
      | cons x l ihl =>
        intro hx
        unfold pickV memB
        simp only [List.map_cons]
        by_cases e : x = i
        · subst e
          simp
        · have : Nat.beq x i = false := beqf e
          rw [this]
          exact ihl fun n hn => hx n (List.mem_cons_of_mem _ hn)
     have ht : havoc ds sel (sel.map fun n => if i ≤ n then (b :: t).toArray.getD (n - i) undef else undef) (fun n => (b :: t).toArray.getD (n - i) undef) s (i + 1)
      = havoc ds sel (sel.map fun n => if i + 1 ≤ n then t.toArray.getD (n - (i + 1)) undef else undef) (fun n => t.toArray.getD (n - (i + 1)) undef) s (i + 1) := by
      have hp : ∀ (j : Nat) (l : List Nat), i < j → pickV j l (l.map fun n => if i ≤ n then (b :: t).toArray.getD (n - i) undef else undef) = pickV j l (l.map fun n => if i + 1 ≤ n then t.toArray.getD (n - (i + 1)) undef else undef) := by
       intro j l hj
       induction l with
       | nil => rfl
       | cons x l ihl =>
         rw [List.map_cons, List.map_cons, pickV_cons, pickV_cons]
         by_cases e : x = j
         · subst e
           have h1 : x - i = (x - (i + 1)) + 1 := by omega
           simp only [Nat.beq_refl]
           rw [if_pos (by omega), if_pos (by omega), h1]
           simp
         · have : Nat.beq x j = false := beqf e
           rw [this]
           exact ihl
      have hh : ∀ (s : List Value) (j : Nat), i < j → havoc ds sel (sel.map fun n => if i ≤ n then (b :: t).toArray.getD (n - i) undef else undef) (fun n => (b :: t).toArray.getD (n - i) undef) s j
       = havoc ds sel (sel.map fun n => if i + 1 ≤ n then t.toArray.getD (n - (i + 1)) undef else undef) (fun n => t.toArray.getD (n - (i + 1)) undef) s j := by
       intro s
       induction s with
       | nil => intro j _; rfl
       | cons c s ihs =>
         intro j hj
         unfold havoc
         rw [hp j sel hj, ihs (j + 1) (by omega)]
         have h1 : j - i = (j - (i + 1)) + 1 := by omega
         rw [h1]
         simp
      exact hh s (i + 1) (by omega)
     unfold havoc
     rw [hpick sel (fun n hn => hn), ht]
     by_cases hm : memB i ds = true
     · rw [hm] at h
       rw [ih t (i + 1) h hsel]
       cases hs : memB i sel with
       | true => rfl
       | false => simp [hm]
     · have hm' : memB i ds = false := by simpa using hm
       rw [hm'] at h
       obtain ⟨rfl, h⟩ := h
       have hs : memB i sel = true → False := by
        intro hs
        have hmem : i ∈ sel := memB_mem hs
        have := hsel i hmem
        rw [hm'] at this; cases this
       have hs' : memB i sel = false := by cases hb : memB i sel with | false => rfl | true => exact (hs hb).elim
       rw [hs', ih t (i + 1) h hsel]
       simp [hm']
theorem agree_refl (ds : List Nat) : ∀ (fr : List Value) (i : Nat), agree ds fr fr i
 | [], _ => trivial
 | a :: s, i => by
   rw [agree_cons]
   split
   · exact agree_refl ds s (i + 1)
   · exact ⟨rfl, agree_refl ds s (i + 1)⟩
noncomputable def mask (ds : List Nat) (l : List Value) : Nat → List Value :=
 List.rec (fun _ => []) (fun v _ ih i => (match memB i ds with | true => undef | false => v) :: ih (i + 1)) l
theorem mask_cons (ds : List Nat) (v : Value) (t : List Value) (i : Nat) : mask ds (v :: t) i = (match memB i ds with | true => undef | false => v) :: mask ds t (i + 1) := rfl
theorem agree_of_mask (ds : List Nat) : ∀ (a b : List Value) (i : Nat), mask ds b i = mask ds a i → agree ds a b i
 | [], [], _, _ => trivial
 | [], _ :: _, _, h => by rw [mask_cons] at h; cases h
 | _ :: _, [], _, h => by rw [mask_cons] at h; cases h
 | a :: s, b :: t, i, h => by
   rw [mask_cons, mask_cons] at h
   obtain ⟨h1, h2⟩ := List.cons.inj h
   have ih := agree_of_mask ds s t (i + 1) h2
   rw [agree_cons]
   split
   · exact ih
   · rename_i hm
     rw [hm] at h1
     exact ⟨h1.symm, ih⟩
theorem loop_rule {P : Program} {c : Code} {fr : List Value} {M : List Blk} {K : Ks} (sel : List Nat) (I : List Value → List Blk → Nat → Prop)
 (hsel : sel.all (fun n => memB n (dsts c)) = true)
 (h0 : getsK fr sel fun vs => Fin M fun A' => ∃ m, I vs A' m)
 (hstep : ∀ vs (junk : Nat → Value) M' m, I vs M' m → havocK (dsts c) sel vs junk fr 0 fun fr' => cw P c fr' M' fun e fr'' M'' => match e with
   | .normal => mask (dsts c) fr'' 0 = mask (dsts c) fr 0 ∧ getsK fr'' sel fun vs' => Fin M'' fun A' => ∃ m', m' < m ∧ I vs' A' m'
   | e => K e fr'' M'') : CodeW P (.loop c) fr M K := by
 refine ⟨fun A w0 w ds st => ?_⟩
 rw [getsK_eq] at h0
 obtain ⟨M0, st0, m0, h0⟩ := fin_out st h0
 have hsel' : ∀ n, n ∈ sel → memB n (dsts c) = true := fun n hn => List.all_eq_true.1 hsel n hn
 have key : ∀ m (fr' : List Value) M' w', St A w0 w' M' → agree (dsts c) fr fr' 0 → I (sel.map fun n => fr'.toArray.getD n undef) M' m → ∀ b k cs,
  ∃ e a' w'', QQ A w0 ds K e a' w'' ∧ Arrives P (lone (b.at ⟨fr'.toArray, ds⟩ (.code c :: .inLoop c :: k)) cs w') b k cs e a' w'' := by
  intro m
  induction m using Nat.strongRecOn with
  | _ m ih =>
    intro fr' M' w' st' hag hI b k cs
    have hs := hstep _ (fun n => fr'.toArray.getD n undef) M' m hI
    rw [havocK_eq] at hs
    have e := havoc_id (dsts c) sel fr fr' 0 hag hsel'
    simp only [Nat.zero_le, if_true, Nat.sub_zero] at e
    rw [e] at hs
    obtain ⟨e, a₁, w₁, hq, harr⟩ := cw_sound c fr' M' _ hs A w0 w' ds st' b (.inLoop c :: k) cs
    obtain ⟨fr₁, M₁, rfl, st₁, hk⟩ := hq
    cases e with
    | normal =>
      obtain ⟨hmk, hk⟩ := hk
      have hag₁ := agree_of_mask _ _ _ _ hmk
      rw [getsK_eq] at hk
      obtain ⟨M₂, st₂, m', hlt, hI'⟩ := fin_out st₁ hk
      obtain ⟨e₂, a₂, w₂, hq₂, harr₂⟩ := ih m' hlt fr₁ M₂ w₁ st₂ hag₁ hI' b k cs
      exact ⟨e₂, a₂, w₂, hq₂, .of_steps (Steps.trans harr (.one step_inLoop)) harr₂⟩
    | exit id => exact ⟨_, _, w₁, ⟨fr₁, M₁, rfl, st₁, hk⟩, .pass (x := .inLoop c) rfl (fun _ _ => .inl (by simp)) harr⟩
    | goto l => exact ⟨_, _, w₁, ⟨fr₁, M₁, rfl, st₁, hk⟩, .pass (x := .inLoop c) rfl (fun _ _ => .inl (by simp)) harr⟩
    | ret => exact ⟨_, _, w₁, ⟨fr₁, M₁, rfl, st₁, hk⟩, .pass (x := .inLoop c) rfl (fun _ _ => .inl (by simp)) harr⟩
    | panic ch => exact ⟨_, _, w₁, ⟨fr₁, M₁, rfl, st₁, hk⟩, .pass (x := .inLoop c) rfl (fun _ _ => .inl (by simp)) harr⟩
    | outgrown => exact ⟨_, _, w₁, ⟨fr₁, M₁, rfl, st₁, hk⟩, .pass (x := .inLoop c) rfl (fun _ _ => .inl (by simp)) harr⟩
 intro b k cs
 obtain ⟨e, a', w', hq, harr⟩ := key m0 fr M0 w st0 (agree_refl _ _ _) h0 b k cs
 exact ⟨e, a', w', hq, .of_steps (.one step_loop) harr⟩
noncomputable def appM (A R : List Blk) : (List Blk → Prop) → Prop := List.rec (fun k => k R) (fun b _ ih k => ih fun M => k (b :: M)) A
theorem appM_eq : ∀ (A R : List Blk) (k : List Blk → Prop), appM A R k = k (A ++ R)
 | [], R, k => rfl
 | b :: A, R, k => by show appM A R _ = _; rw [appM_eq A R]; rfl
def Fnc (P : Program) (f : FuncId) (args : List Value) (A : List Blk) (Q : Ending → List Blk → Prop) : Prop :=
 enters P f = true ∧ ∀ w, Mem w A → Calls P f args.toArray w fun e w' => ∃ A', St A w w' A' ∧ Q e A'
def Ret (v : Value) (A' : List Blk) : Ending → List Blk → Prop := fun e A => e = .returned v ∧ A = A'
noncomputable def resK (P : Program) (fr : List Value) (M : List Blk) (k : List Value → Prop) (rs : List ResultVar) : List Value → Prop :=
 List.rec (fun acc => k acc) (fun r _ ih acc => match r with
  | .tmp t => getK fr t fun v => appK acc [v] fun acc' => ih acc'
  | .cell a t => getK fr a fun av =>
    match av with
    | .pointer (some ⟨b, off, none⟩) =>
      (match P.info? t, P.underlying t with
      | some i, some (.struct _) => LdN M b off i.size fun vs => appK acc [.agg vs.toArray] fun acc' => ih acc'
      | some i, some (.array _ _) => LdN M b off i.size fun vs => appK acc [.agg vs.toArray] fun acc' => ih acc'
      | some _, some _ => Ld1 M b off fun v => appK acc [v] fun acc' => ih acc'
      | _, _ => False)
    | _ => False) rs
theorem resK_tmp (P : Program) (fr : List Value) (M : List Blk) (k : List Value → Prop) (t : Nat) (rs : List ResultVar) (acc : List Value) :
 resK P fr M k (.tmp t :: rs) acc = getK fr t fun v => appK acc [v] fun acc' => resK P fr M k rs acc' := rfl
theorem resK_cell (P : Program) (fr : List Value) (M : List Blk) (k : List Value → Prop) (a : Nat) (t : TypeId) (rs : List ResultVar) (acc : List Value) :
 resK P fr M k (.cell a t :: rs) acc = getK fr a fun av =>
  match av with
  | .pointer (some ⟨b, off, none⟩) =>
    (match P.info? t, P.underlying t with
    | some i, some (.struct _) => LdN M b off i.size fun vs => appK acc [.agg vs.toArray] fun acc' => resK P fr M k rs acc'
    | some i, some (.array _ _) => LdN M b off i.size fun vs => appK acc [.agg vs.toArray] fun acc' => resK P fr M k rs acc'
    | some _, some _ => Ld1 M b off fun v => appK acc [v] fun acc' => resK P fr M k rs acc'
    | _, _ => False)
  | _ => False := rfl
def oneOrMany : List Value → Value
 | [v] => v
 | l => .tuple l.toArray
def resOne (fr : List Value) : ResultVar → Sem Value
 | .tmp t => pure (fr.toArray.getD t undef)
 | .cell a t => do loadVar t (← asAddr (fr.toArray.getD a undef))
theorem resK_out {P : Program} {fr : List Value} {M : List Blk} {k : List Value → Prop} {A : List Blk} {w0 w : World} (st : St A w0 w M) : ∀ (rs : List ResultVar) (acc : List Value), resK P fr M k rs acc →
 ∃ vs : List Value, (rs.mapM (resOne fr)).run P w = .ok vs w ∧ k (acc ++ vs)
 | [], acc, h => ⟨[], by simp, by have h : k acc := h; simpa using h⟩
 | .tmp t :: rs, acc, h => by
   rw [resK_tmp, getK_eq, appK_eq] at h
   obtain ⟨vs, h1, h2⟩ := resK_out st rs _ h
   exact ⟨fr.toArray.getD t undef :: vs, by simp only [List.mapM_cons, resOne, Sem.run_bind, Sem.run_pure, Result.andThen_ok, h1], by simpa using h2⟩
 | .cell a t :: rs, acc, h => by
   rw [resK_cell, getK_eq] at h
   split at h
   · rename_i b off hv
     have go : ∀ v, (loadVar t ⟨b, off, none⟩).run P w = .ok v w → resK P fr M k rs (acc ++ [v]) → ∃ vs : List Value, ((ResultVar.cell a t :: rs).mapM (resOne fr)).run P w = .ok vs w ∧ k (acc ++ vs) := fun v hr hk => by
      obtain ⟨vs, h1, h2⟩ := resK_out st rs _ hk
      exact ⟨v :: vs, by simp only [List.mapM_cons, resOne, Sem.run_bind, hv, asAddr, Sem.run_pure, Result.andThen_ok, hr, h1], by simpa using h2⟩
     split at h
     · rename_i i _ hi hu
       obtain ⟨vs, hl, hc, hk⟩ := h.out A w0 w st
       rw [appK_eq] at hk
       exact go _ (loadVar_many hu hi rfl hl hc) hk
     · rename_i i _ _ hi hu
       obtain ⟨vs, hl, hc, hk⟩ := h.out A w0 w st
       rw [appK_eq] at hk
       exact go _ (loadVar_many hu hi rfl hl hc) hk
     · rename_i i d n1 n2 hi hu
       obtain ⟨v, hc, hk⟩ := h.out A w0 w st
       rw [appK_eq] at hk
       exact go _ (loadVar_one hu (by cases d <;> first | rfl | exact (n1 _ rfl).elim | exact (n2 _ _ rfl).elim) hc) hk
     · exact h.elim
   · exact h.elim
theorem results_run {P : Program} {fn : Func} {fr : List Value} {w : World} {vs : List Value}
 (h : (fn.results.toList.mapM (resOne fr)).run P w = .ok vs w) : (results fn fr.toArray).run P w = .ok (oneOrMany vs) w := by
 have e : (fn.results.mapM (resOne fr)).run P w = .ok vs.toArray w := by
  rw [Array.mapM_eq_mapM_toList, Sem.run_map, h]
  rfl
 have e2 : results fn fr.toArray = (do let vs ← fn.results.mapM (resOne fr); pure (if h : vs.size = 1 then vs[0] else .tuple vs)) := by
  unfold results
  congr 1
 rw [e2, Sem.run_bind, e]
 simp only [Result.andThen_ok, Sem.run_pure]
 congr 1
 match vs with
 | [] => rfl
 | [v] => rfl
 | a :: b :: t => rfl
noncomputable def endK (P : Program) (fn : Func) (Q : Ending → List Blk → Prop) : Ks := fun e fr M =>
 match e with
 | .normal => resK P fr M (fun vs => Fin M (Q (.returned (oneOrMany vs)))) fn.results.toList []
 | .ret => resK P fr M (fun vs => Fin M (Q (.returned (oneOrMany vs)))) fn.results.toList []
 | .panic ch => Fin M (Q (.panicked ch))
 | _ => False
def codeOf (fn : Func) : Code := match fn.body with | some c => c | none => .skip
theorem fn_intro {P : Program} {f : FuncId} {fn : Func} {args : List Value} {A : List Blk} {Q : Ending → List Blk → Prop} (hf : P.funcs[f]? = some fn) (he : enters P f = true)
 (h : forceL (args ++ List.replicate (fn.ntmps - args.length) undef) fun fr => cw P (codeOf fn) fr A (endK P fn Q)) : Fnc P f args A Q := by
 refine ⟨he, fun w hm => ?_⟩
 have hb : ∃ c, fn.body = some c := by
  unfold enters at he
  rw [hf] at he
  simp only [Bool.and_eq_true] at he
  exact Option.isSome_iff_exists.1 he.2
 obtain ⟨c, hc⟩ := hb
 rw [forceL_eq] at h
 have hcode : codeOf fn = c := by unfold codeOf; rw [hc]
 rw [hcode] at h
 refine calls_of_wp hf hc ?_
 have h1 := cw_sound c _ A _ h A w w [] (St.init hm)
 have e : (args.toArray ++ Array.replicate (fn.ntmps - args.toArray.size) undef) = (args ++ List.replicate (fn.ntmps - args.length) undef).toArray := by apply Array.ext'; simp
 rw [e]
 refine wp_mono h1 fun e a w' hq => ?_
 obtain ⟨fr, M, rfl, st, hk⟩ := hq
 have fin : resK P fr M (fun vs => Fin M (Q (.returned (oneOrMany vs)))) fn.results.toList [] → ∃ v, (results fn fr.toArray).run P w' = .ok v w' ∧ ∃ A', St A w w' A' ∧ Q (.returned v) A' := fun hr => by
  obtain ⟨vs, h1, h2⟩ := resK_out st _ _ hr
  simp only [List.nil_append] at h2
  exact ⟨_, results_run h1, fin_out st h2⟩
 cases e with
 | normal => exact ⟨rfl, fin hk⟩
 | ret => exact ⟨rfl, fin hk⟩
 | panic ch => exact ⟨rfl, fin_out st hk⟩
 | exit i => exact hk.elim
 | goto l => exact hk.elim
 | outgrown => exact hk.elim
theorem bd_u8 {a : Int} (h : (Lit.int .u8 a).wf = true) : 0 ≤ a ∧ a ≤ 255 := by
 simp only [Lit.wf, IntKind.min, IntKind.max, IntKind.bits, IntKind.signed] at h
 simp at h
 omega
theorem fin_int {p : Prop} [Decidable p] {kd : IntKind} {a b c : Int} (h : (p ∧ c = a) ∨ (¬ p ∧ c = b)) : Ending.returned (oneOrMany [.int kd c]) = .returned (.int kd (if p then a else b)) := by
 rcases h with ⟨h1, rfl⟩ | ⟨h1, rfl⟩
 · rw [if_pos h1]; rfl
 · rw [if_neg h1]; rfl
theorem fin_bool {p : Prop} [Decidable p] {c : Bool} (h : (p ∧ c = true) ∨ (¬ p ∧ c = false)) : Ending.returned (oneOrMany [.bool c]) = .returned (.bool (decide p)) := by
 rcases h with ⟨h1, rfl⟩ | ⟨h1, rfl⟩
 · rw [decide_eq_true h1]; rfl
 · rw [decide_eq_false h1]; rfl
theorem call_fn {P : Program} {f : FuncId} {args : List Value} {A M R : List Blk} {Q : Ending → List Blk → Prop} {k : Kv} {pan : Kp} (h : Fnc P f args A Q) (ht : Takes M A R)
 (hk : ∀ e A', Q e A' → match e with | .returned v => appM A' R (k v) | .panicked ch => appM A' R (pan ch) | .outgrown => False) : Cl P f args M k pan := by
 refine ⟨h.1, fun B w0 w st => ?_⟩
 have st' := st.perm ht.perm
 refine (h.2 w st'.left.mem).mono fun e w' ⟨A', s1, hq⟩ => ?_
 have := hk e A' hq
 cases e with
 | returned v => simp only [appM_eq] at this; exact ⟨_, st'.call s1, this⟩
 | panicked ch => simp only [appM_eq] at this; exact ⟨_, st'.call s1, this⟩
 | outgrown => exact this.elim
theorem call_ret {P : Program} {f : FuncId} {args : List Value} {A A' M R : List Blk} {v : Value} {k : Kv} {pan : Kp} (h : Fnc P f args A (Ret v A')) (ht : Takes M A R) (hk : appM A' R (k v)) : Cl P f args M k pan :=
 call_fn h ht fun e A'' ⟨h1, h2⟩ => by subst h1; subst h2; exact hk
theorem call_val {P : Program} {f : FuncId} {args : List Value} {M : List Blk} {v : Value} {k : Kv} {pan : Kp} (h : Fnc P f args [] (Ret v [])) (hk : k v M) : Cl P f args M k pan :=
 call_ret h .nil (by rw [appM_eq]; exact hk)
theorem call_bool {P : Program} {f : FuncId} {args : List Value} {M : List Blk} {p : Prop} {k : Kv} {pan : Kp} [Decidable p] (h : Fnc P f args [] (Ret (.bool (decide p)) []))
 (h1 : p → k (.bool true) M) (h2 : ¬ p → k (.bool false) M) : Cl P f args M k pan :=
 call_val h (by by_cases hp : p <;> simp only [hp, decide_true, decide_false] <;> first | exact h1 hp | exact h2 hp)
theorem call_if {P : Program} {f : FuncId} {args : List Value} {M : List Blk} {p : Prop} {kd : IntKind} {a b : Int} {k : Kv} {pan : Kp} [Decidable p] (h : Fnc P f args [] (Ret (.int kd (if p then a else b)) []))
 (h1 : p → k (.int kd a) M) (h2 : ¬ p → k (.int kd b) M) : Cl P f args M k pan :=
 call_val h (by by_cases hp : p <;> simp only [hp, if_true, if_false] <;> first | exact h1 hp | exact h2 hp)
theorem fin_t {p : Prop} [Decidable p] {l : List Value} {a b : Value} (hp : p) (h : oneOrMany l = a) : Ending.returned (oneOrMany l) = .returned (if p then a else b) := by rw [if_pos hp, h]
theorem fin_f {p : Prop} [Decidable p] {l : List Value} {a b : Value} (hp : ¬ p) (h : oneOrMany l = b) : Ending.returned (oneOrMany l) = .returned (if p then a else b) := by rw [if_neg hp, h]
theorem ret_int {kd : IntKind} {a b : Int} (h : a = b) : Ending.returned (oneOrMany [.int kd a]) = .returned (.int kd b) := by rw [h]; rfl
theorem w64 {z : Int} (h1 : -9223372036854775808 ≤ z) (h2 : z ≤ 9223372036854775807) : IntKind.i64.wrap z = z := by
 have := IntWalk.i64_in (n := z) ⟨h1, h2⟩
 exact this
theorem qcall_val {P : Program} {f : FuncId} {args : List Value} {M : List Blk} {v : Value} {k : Kv} (h : Fnc P f args [] (Ret v [])) (hk : k v M) : QCl P f args M k := by
 refine ⟨h.1, v, fun A w0 w st => ?_, hk⟩
 refine (h.2 w ⟨fun b hb => (by cases hb), List.Pairwise.nil⟩).mono fun e w' ⟨A', s1, h1, h2⟩ => ?_
 subst h2
 exact ⟨h1, by have := St.call (A1 := []) (A1' := []) (R := M) st s1; exact this⟩
theorem call_in {P : Program} {f : FuncId} {fn : Func} {args : List Value} {M : List Blk} {k : Kv} {pan : Kp} (hf : P.funcs[f]? = some fn) (he : enters P f = true)
 (h : forceL (args ++ List.replicate (fn.ntmps - args.length) undef) fun fr => cw P (codeOf fn) fr M (endK P fn fun e M' => match e with | .returned v => k v M' | .panicked ch => pan ch M' | .outgrown => False)) : Cl P f args M k pan :=
 call_fn (fn_intro (A := M) hf he h) (R := []) (by
  have : ∀ M : List Blk, Takes M M [] := fun M => by
   induction M with
   | nil => exact .nil
   | cons b M ih => exact .cons .here ih
  exact this M) fun e A' hq => by cases e <;> first | exact hq | (simp only [appM_eq, List.append_nil]; exact hq)
theorem ld1_lit {M : List Blk} {n off : Nat} {cs : List Value} {t : TypeId} {k : Value → Prop} [h : Look M n (.cells cs t)] (hk : getOK cs off k) : Ld1 M n off k := by
 refine ⟨fun A w0 w st => ?_⟩
 obtain ⟨v, h1, h2⟩ := getOK_out hk
 refine ⟨v, ?_, h2⟩
 have := st.has _ h.mem
 simp only [Blk.holds] at this
 simp [World.cell?, this, h1]
theorem ld1_row {M : List Blk} {n off : Nat} {cs : List Value} {t : TypeId} {k : Value → Prop} [h : Look M n (.row cs t)] {v : Value} (hv : cs[off]? = some v) (hk : k v) : Ld1 M n off k := by
 refine ⟨fun A w0 w st => ?_⟩
 refine ⟨v, ?_, hk⟩
 have := st.has _ h.mem
 simp only [Blk.holds] at this
 simp [World.cell?, this, hv]
theorem ld1_ro {M : List Blk} {n off o j : Nat} {cs : List Value} {k : Value → Prop} [h : Look M n (.ro o cs)] {v : Value} (ho : off = o + j) (hv : cs[j]? = some v) (hk : k v) : Ld1 M n off k := by
 refine ⟨fun A w0 w st => ?_⟩
 refine ⟨v, ?_, hk⟩
 have := st.has _ h.mem
 simp only [Blk.holds] at this
 rw [ho]
 exact this.2 j v hv
theorem ldN_lit {M : List Blk} {n off m : Nat} {cs : List Value} {t : TypeId} {k : List Value → Prop} [h : Look M n (.cells cs t)] (hk : dropK cs off fun l => takeK l m k) : LdN M n off m k := by
 refine ⟨fun A w0 w st => ?_⟩
 have h1 := dropK_out hk
 have h2 := takeK_out h1.1
 refine ⟨_, by simp at h2 ⊢; omega, fun j v hj => ?_, h2.1⟩
 have := st.has _ h.mem
 simp only [Blk.holds] at this
 have hlt : j < m := by
  by_cases hj' : j < m
  · exact hj'
  · rw [List.getElem?_take, if_neg hj'] at hj; cases hj
 rw [List.getElem?_take, if_pos hlt, List.getElem?_drop] at hj
 simp [World.cell?, this, hj]
theorem qld1_lit {M : List Blk} {n off : Nat} {cs : List Value} {t : TypeId} {k : Value → Prop} [h : Look M n (.cells cs t)] (hk : getOK cs off k) : QLd1 M n off k := by
 obtain ⟨v, h1, h2⟩ := getOK_out hk
 refine ⟨v, fun A w0 w st => ?_, h2⟩
 have := st.has _ h.mem
 simp only [Blk.holds] at this
 simp [World.cell?, this, h1]
theorem qldN_lit {M : List Blk} {n off m : Nat} {cs : List Value} {t : TypeId} {k : List Value → Prop} [h : Look M n (.cells cs t)] (hk : dropK cs off fun l => takeK l m k) : QLdN M n off m k := by
 have h1 := dropK_out hk
 have h2 := takeK_out h1.1
 refine ⟨_, by simp at h2 ⊢; omega, fun A w0 w st j v hj => ?_, h2.1⟩
 have := st.has _ h.mem
 simp only [Blk.holds] at this
 have hlt : j < m := by
  by_cases hj' : j < m
  · exact hj'
  · rw [List.getElem?_take, if_neg hj'] at hj; cases hj
 rw [List.getElem?_take, if_pos hlt, List.getElem?_drop] at hj
 simp [World.cell?, this, hj]
theorem setRow_st {A M M' : List Blk} {w0 w : World} {n : Nat} {old new : List Value} {t : TypeId} {o o' : BO} (st : St A w0 w M) (hu : Upd M n o o' M') (ho : o = .cells old t ∨ o = .row old t) (ho' : o' = .cells new t ∨ o' = .row new t) :
 St A w0 (w.setRow n new.toArray) M' := by
 obtain ⟨L, R, h1, h2⟩ := hu.split
 have hb : (⟨n, o⟩ : Blk).holds w := st.has _ (by rw [h1]; simp)
 have hg : w.heap[n]? = some (.cells old.toArray t (0, 0)) := by rcases ho with rfl | rfl <;> exact hb
 have hsz : (w.setRow n new.toArray).heap.size = w.heap.size := by simp [World.setRow]
 refine st.set hu (by rcases ho with rfl | rfl <;> rfl) rfl rfl rfl (by omega) (fun k hk _ => ?_) ?_ (by rcases ho' with rfl | rfl <;> rfl)
 · simp only [World.setRow, Array.getElem?_modify]
   rw [if_neg (by omega)]
 · have := setRow_heap w n old.toArray new.toArray t _ hg
   rcases ho' with rfl | rfl <;> exact this
class Zip (M : List Blk) (n : Nat) (o : outParam BO) (f : outParam (Blk → List Blk)) : Prop where
 out : ∃ L R, M = L ++ ⟨n, o⟩ :: R ∧ ∀ b, f b = L ++ b :: R
instance (priority := high) Zip.here {M : List Blk} {n : Nat} {o : BO} : Zip (⟨n, o⟩ :: M) n o (fun b => b :: M) := ⟨⟨[], M, rfl, fun _ => rfl⟩⟩
instance (priority := low) Zip.there {M : List Blk} {n : Nat} {o : BO} {f : Blk → List Blk} {c : Blk} [h : Zip M n o f] : Zip (c :: M) n o (fun b => c :: f b) :=
 ⟨let ⟨L, R, h1, h2⟩ := h.out; ⟨c :: L, R, by rw [h1]; rfl, fun b => by rw [h2]; rfl⟩⟩
instance (priority := low) Zip.app {K M : List Blk} {n : Nat} {o : BO} {f : Blk → List Blk} [h : Zip M n o f] : Zip (K ++ M) n o (fun b => K ++ f b) :=
 ⟨let ⟨L, R, h1, h2⟩ := h.out; ⟨K ++ L, R, by rw [h1]; simp, fun b => by rw [h2]; simp⟩⟩
instance (priority := low) Look.app {K M : List Blk} {n : Nat} {o : BO} [h : Look M n o] : Look (K ++ M) n o := ⟨List.mem_append.2 (.inr h.mem)⟩
theorem Zip.upd {M : List Blk} {n : Nat} {o : BO} {f : Blk → List Blk} (z : Zip M n o f) (o' : BO) : Upd M n o o' (f ⟨n, o'⟩) := ⟨let ⟨L, R, h1, h2⟩ := z.out; ⟨L, R, h1, h2 _⟩⟩
theorem st_lit {P : Program} {M : List Blk} {n off : Nat} {cs vs : List Value} {t : TypeId} {f : Blk → List Blk} {k : List Blk → Prop} [z : Zip M n (.cells cs t) f] (h1 : vs.all (·.oneCell') = true)
 (hk : spliceK cs off vs fun new => k (f ⟨n, .cells new t⟩)) : StN P M n off vs k := by
 refine ⟨fun A w0 w st => ?_⟩
 have h2 := spliceK_out hk
 have hu := z.upd (.cells (cs.take off ++ vs ++ cs.drop (off + vs.length)) t)
 obtain ⟨L, R, e1, e2⟩ := hu.split
 have hb : (⟨n, .cells cs t⟩ : Blk).holds w := st.has _ (by rw [e1]; simp)
 have hr := run_storeCells_at P n off t vs 0 cs.toArray w hb (by simpa using h2.2) (fun v hv => List.all_eq_true.1 h1 v hv)
 refine ⟨_, _, hr, ?_, h2.1⟩
 simp only [Nat.add_zero]
 exact setRow_st st hu (.inl rfl) (.inl rfl)
theorem st_row {P : Program} {M : List Blk} {n off : Nat} {cs : List Value} {v : Value} {t : TypeId} {f : Blk → List Blk} {k : List Blk → Prop} [z : Zip M n (.row cs t) f] (h1 : v.oneCell' = true)
 (hl : off < cs.length) (hk : k (f ⟨n, .row (cs.set off v) t⟩)) : StN P M n off [v] k := by
 refine ⟨fun A w0 w st => ?_⟩
 have hu := z.upd (.row (cs.set off v) t)
 obtain ⟨L, R, e1, e2⟩ := hu.split
 have hb : (⟨n, .row cs t⟩ : Blk).holds w := st.has _ (by rw [e1]; simp)
 have hr := run_storeCells_at P n off t [v] 0 cs.toArray w hb (by simp; omega) (fun u hv => by simp at hv; rw [hv]; exact h1)
 refine ⟨_, _, hr, ?_, hk⟩
 simp only [Nat.add_zero]
 have e : cs.toArray.toList.take off ++ [v] ++ cs.toArray.toList.drop (off + [v].length) = cs.set off v := by
  rw [List.set_eq_take_append_cons_drop, if_pos hl]; simp
 rw [e]
 exact setRow_st st hu (.inr rfl) (.inr rfl)
theorem Fnc.out {P : Program} {f : FuncId} {args : List Value} {A : List Blk} {Q : Ending → List Blk → Prop} (h : Fnc P f args A Q) : enters P f = true ∧ ∀ w, Mem w A → Calls P f args.toArray w fun e w' => ∃ A', St A w w' A' ∧ Q e A' := h
attribute [irreducible] Fnc
end Ev
end Go.Proofs.YtkjamonkohpcnaaGreat
