/- Texts of this proof, merged. -/
import Derived.Calls
import Derived.Deep.Quiet
import Derived.StillTail
import Derived.Below
import Derived.WalkKit
set_option linter.unusedVariables false
set_option linter.unusedSimpArgs false
set_option linter.unusedSectionVars false
set_option maxRecDepth 100000
set_option maxHeartbeats 16000000
namespace Go.Proofs.YtkjamonkohpcnaaGreat
namespace Ev
open Go
inductive BO where
 | cells (cs : List Value) (t : TypeId)
 | row (cs : List Value) (t : TypeId)
 | ro (off : Nat) (cs : List Value)
 | obj (o : Obj)
structure Blk where
 n : Nat
 o : BO
def Blk.ro (b : Blk) : Bool := match b.o with | .ro _ _ => true | _ => false
def Obj.isCells : Obj → Bool
 | .cells .. => true
 | _ => false
def Blk.holds (w : World) (b : Blk) : Prop :=
 match b.o with
 | .cells cs t => w.heap[b.n]? = some (.cells cs.toArray t (0, 0))
 | .row cs t => w.heap[b.n]? = some (.cells cs.toArray t (0, 0))
 | .ro off cs => b.n < w.heap.size ∧ ∀ j v, cs[j]? = some v → w.cell? ⟨b.n, off + j, none⟩ = some v
 | .obj o => w.heap[b.n]? = some o ∧ Obj.isCells o = false
def Blk.apart (a b : Blk) : Prop := a.n = b.n → a.ro = true ∧ b.ro = true
theorem Blk.apart.symm {a b : Blk} (h : a.apart b) : b.apart a := fun e => (h e.symm).symm
def Mem (w : World) (M : List Blk) : Prop := (∀ b ∈ M, b.holds w) ∧ M.Pairwise Blk.apart
theorem Blk.holds.lt {w : World} {b : Blk} (h : b.holds w) : b.n < w.heap.size := by
 unfold Blk.holds at h
 split at h
 · exact (Array.getElem?_eq_some_iff.1 h).1
 · exact (Array.getElem?_eq_some_iff.1 h).1
 · exact h.1
 · exact (Array.getElem?_eq_some_iff.1 h.1).1
theorem Blk.holds.same {w w' : World} {b : Blk} (h : b.holds w) (he : w'.heap[b.n]? = w.heap[b.n]?) : b.holds w' := by
 have hl := h.lt
 unfold Blk.holds at *
 split
 · rename_i ho; simp only [ho] at h; rw [he]; exact h
 · rename_i ho; simp only [ho] at h; rw [he]; exact h
 · rename_i ho
   simp only [ho] at h
   refine ⟨?_, fun j v hj => ?_⟩
   · rw [Array.getElem?_eq_getElem hl] at he
     exact (Array.getElem?_eq_some_iff.1 he).1
   · have := h.2 j v hj
     unfold World.cell? at *
     simp only [he]
     exact this
 · rename_i ho; simp only [ho] at h; rw [he]; exact h
structure St (A : List Blk) (w0 w : World) (M : List Blk) : Prop where
 os : w.os = w0.os
 tape : w.tape = w0.tape
 output : w.output = w0.output
 size : w0.heap.size ≤ w.heap.size
 keep : ∀ k, k < w0.heap.size → (∀ b ∈ A, b.ro = false → b.n ≠ k) → w.heap[k]? = w0.heap[k]?
 has : ∀ b ∈ M, b.holds w
 own : ∀ b ∈ M, (∃ a ∈ A, a.n = b.n ∧ (a.ro = true → b.ro = true)) ∨ w0.heap.size ≤ b.n
 apart : M.Pairwise Blk.apart
theorem St.init {w : World} {A : List Blk} (h : Mem w A) : St A w w A :=
 ⟨rfl, rfl, rfl, Nat.le_refl _, fun _ _ _ => rfl, h.1, fun b hb => .inl ⟨b, hb, rfl, id⟩, h.2⟩
theorem St.mem {A M : List Blk} {w0 w : World} (h : St A w0 w M) : Mem w M := ⟨h.has, h.apart⟩
theorem St.drew {A M : List Blk} {w0 w : World} (h : St A w0 w M) (n : Nat) : St A w0 { w with drawn := n } M :=
 ⟨h.os, h.tape, h.output, h.size, h.keep, fun b hb => (h.has b hb).same rfl, h.own, h.apart⟩
theorem St.new {A M : List Blk} {w0 w : World} (h : St A w0 w M) (o : Obj) (bo : BO) (hh : (⟨w.heap.size, bo⟩ : Blk).holds { w with heap := w.heap.push o }) :
 St A w0 { w with heap := w.heap.push o } (⟨w.heap.size, bo⟩ :: M) := by
 have old : ∀ k, k < w.heap.size → (w.heap.push o)[k]? = w.heap[k]? := fun k hk => by rw [Array.getElem?_push, if_neg (by omega)]
 refine ⟨h.os, h.tape, h.output, by have := h.size; simp; omega, fun k hk hA => ?_, fun b hb => ?_, fun b hb => ?_, ?_⟩
 · have := h.size
   exact (old k (by omega)).trans (h.keep k hk hA)
 · rcases List.mem_cons.1 hb with rfl | hb
   · exact hh
   · exact (h.has b hb).same (old _ (h.has b hb).lt)
 · rcases List.mem_cons.1 hb with rfl | hb
   · exact .inr h.size
   · exact h.own b hb
 · refine List.pairwise_cons.2 ⟨fun b hb e => ?_, h.apart⟩
   have := (h.has b hb).lt
   simp only at e
   omega
class Look (M : List Blk) (n : Nat) (o : outParam BO) : Prop where
 mem : (⟨n, o⟩ : Blk) ∈ M
instance (priority := high) Look.here {M : List Blk} {n : Nat} {o : BO} : Look (⟨n, o⟩ :: M) n o := ⟨List.mem_cons_self⟩
instance (priority := low) Look.there {M : List Blk} {n : Nat} {o : BO} {b : Blk} [h : Look M n o] : Look (b :: M) n o := ⟨List.mem_cons_of_mem _ h.mem⟩
class Upd (M : List Blk) (n : Nat) (o : outParam BO) (o' : BO) (M' : outParam (List Blk)) : Prop where
 split : ∃ L R, M = L ++ ⟨n, o⟩ :: R ∧ M' = L ++ ⟨n, o'⟩ :: R
instance (priority := high) Upd.here {M : List Blk} {n : Nat} {o o' : BO} : Upd (⟨n, o⟩ :: M) n o o' (⟨n, o'⟩ :: M) := ⟨[], M, rfl, rfl⟩
instance (priority := low) Upd.there {M M' : List Blk} {n : Nat} {o o' : BO} {b : Blk} [h : Upd M n o o' M'] : Upd (b :: M) n o o' (b :: M') :=
 ⟨let ⟨L, R, h1, h2⟩ := h.split; ⟨b :: L, R, by rw [h1]; rfl, by rw [h2]; rfl⟩⟩
theorem St.set {A M M' : List Blk} {w0 w w' : World} {n : Nat} {o o' : BO} (h : St A w0 w M) (hu : Upd M n o o' M') (hro : (⟨n, o⟩ : Blk).ro = false)
 (hos : w'.os = w.os) (htape : w'.tape = w.tape) (hout : w'.output = w.output) (hsize : w.heap.size ≤ w'.heap.size)
 (hk : ∀ k, k ≠ n → k < w.heap.size → w'.heap[k]? = w.heap[k]?) (hh : (⟨n, o'⟩ : Blk).holds w') (hro' : (⟨n, o'⟩ : Blk).ro = false) : St A w0 w' M' := by
 obtain ⟨L, R, h1, h2⟩ := hu.split
 subst h1; subst h2
 have hp := h.apart
 rw [List.pairwise_append, List.pairwise_cons] at hp
 obtain ⟨p1, ⟨p2, p3⟩, p4⟩ := hp
 have hmem : (⟨n, o⟩ : Blk) ∈ L ++ ⟨n, o⟩ :: R := by simp
 have ne : ∀ b, b ∈ L ∨ b ∈ R → b.n ≠ n := fun b hb e => by
  rcases hb with hb | hb
  · have := (p4 b hb ⟨n, o⟩ List.mem_cons_self e).2
    rw [hro] at this; cases this
  · have := (p2 b hb e.symm).1
    rw [hro] at this; cases this
 refine ⟨hos.trans h.os, htape.trans h.tape, hout.trans h.output, Nat.le_trans h.size hsize, fun k hk0 hA => ?_, fun b hb => ?_, fun b hb => ?_, ?_⟩
 · have hsz := h.size
   by_cases e : k = n
   · subst e
     rcases h.own _ hmem with ⟨a, ha, e1, e2⟩ | h3
     · by_cases hra : a.ro = true
       · have := e2 hra
         rw [hro] at this; cases this
       · exact absurd e1 (hA a ha (by simpa using hra))
     · simp only at h3; omega
   · exact (hk k e (by omega)).trans (h.keep k hk0 hA)
 · rcases List.mem_append.1 hb with hb | hb
   · have hm : b ∈ L ++ ⟨n, o⟩ :: R := List.mem_append.2 (.inl hb)
     exact (h.has b hm).same (hk _ (ne b (.inl hb)) (h.has b hm).lt)
   · rcases List.mem_cons.1 hb with rfl | hb
     · exact hh
     · have hm : b ∈ L ++ ⟨n, o⟩ :: R := List.mem_append.2 (.inr (List.mem_cons_of_mem _ hb))
       exact (h.has b hm).same (hk _ (ne b (.inr hb)) (h.has b hm).lt)
 · rcases List.mem_append.1 hb with hb | hb
   · exact h.own b (List.mem_append.2 (.inl hb))
   · rcases List.mem_cons.1 hb with rfl | hb
     · rcases h.own _ hmem with ⟨a, ha, e1, e2⟩ | h3
       · exact .inl ⟨a, ha, e1, fun hr => by have := e2 hr; rw [hro] at this; cases this⟩
       · exact .inr h3
     · exact h.own b (List.mem_append.2 (.inr (List.mem_cons_of_mem _ hb)))
 · rw [List.pairwise_append, List.pairwise_cons]
   refine ⟨p1, ⟨fun b hb e => absurd e.symm (ne b (.inr hb)), p3⟩, fun a ha b hb => ?_⟩
   rcases List.mem_cons.1 hb with rfl | hb
   · exact fun e => absurd e (ne a (.inl ha))
   · exact p4 a ha b (List.mem_cons_of_mem _ hb)
inductive Take : List Blk → Blk → List Blk → Prop where
 | here {M b} : Take (b :: M) b M
 | there {M b c R} (h : Take M b R) : Take (c :: M) b (c :: R)
inductive Takes : List Blk → List Blk → List Blk → Prop where
 | nil {M} : Takes M [] M
 | cons {M b M1 A R} (h : Take M b M1) (hs : Takes M1 A R) : Takes M (b :: A) R
theorem Take.perm {M R : List Blk} {b : Blk} (h : Take M b R) : M.Perm (b :: R) := by
 induction h with
 | here => exact .refl _
 | there h ih => exact (ih.cons _).trans (.swap _ _ _)
theorem Takes.perm {M A R : List Blk} (h : Takes M A R) : M.Perm (A ++ R) := by
 induction h with
 | nil => exact .refl _
 | cons h hs ih => exact h.perm.trans (ih.cons _)
theorem St.perm {A M M' : List Blk} {w0 w : World} (h : St A w0 w M) (hp : M.Perm M') : St A w0 w M' :=
 ⟨h.os, h.tape, h.output, h.size, h.keep, fun b hb => h.has b (hp.mem_iff.2 hb), fun b hb => h.own b (hp.mem_iff.2 hb), (hp.pairwise_iff Blk.apart.symm).1 h.apart⟩
theorem St.left {A M R : List Blk} {w0 w : World} (h : St A w0 w (M ++ R)) : St A w0 w M :=
 ⟨h.os, h.tape, h.output, h.size, h.keep, fun b hb => h.has b (List.mem_append.2 (.inl hb)), fun b hb => h.own b (List.mem_append.2 (.inl hb)), (List.pairwise_append.1 h.apart).1⟩
theorem St.call {A A1 A1' R : List Blk} {w0 w w' : World} (h : St A w0 w (A1 ++ R)) (h1 : St A1 w w' A1') : St A w0 w' (A1' ++ R) := by
 have hp := List.pairwise_append.1 h.apart
 have hsz := h.size
 refine ⟨h1.os.trans h.os, h1.tape.trans h.tape, h1.output.trans h.output, Nat.le_trans h.size h1.size, fun k hk hA => ?_, fun b hb => ?_, fun b hb => ?_, ?_⟩
 · refine (h1.keep k (by omega) fun b hb hro e => ?_).trans (h.keep k hk hA)
   rcases h.own b (List.mem_append.2 (.inl hb)) with ⟨a, ha, e1, e2⟩ | h3
   · by_cases hra : a.ro = true
     · have := e2 hra
       rw [hro] at this; cases this
     · exact hA a ha (by simpa using hra) (e1.trans e)
   · omega
 · rcases List.mem_append.1 hb with hb | hb
   · exact h1.has b hb
   · have hb' := h.has b (List.mem_append.2 (.inr hb))
     refine hb'.same (h1.keep _ hb'.lt fun a ha hro e => ?_)
     have := (hp.2.2 a ha b hb e).1
     rw [hro] at this; cases this
 · rcases List.mem_append.1 hb with hb | hb
   · rcases h1.own b hb with ⟨a1, ha1, e1, e2⟩ | h3
     · rcases h.own a1 (List.mem_append.2 (.inl ha1)) with ⟨a, ha, e3, e4⟩ | h4
       · exact .inl ⟨a, ha, e3.trans e1, fun hr => e2 (e4 hr)⟩
       · exact .inr (by omega)
     · exact .inr (by omega)
   · exact h.own b (List.mem_append.2 (.inr hb))
 · refine List.pairwise_append.2 ⟨h1.apart, hp.2.1, fun a' ha' r hr e => ?_⟩
   have hr' := (h.has r (List.mem_append.2 (.inr hr))).lt
   rcases h1.own a' ha' with ⟨a1, ha1, e1, e2⟩ | h3
   · have := hp.2.2 a1 ha1 r hr (e1.trans e)
     exact ⟨e2 this.1, this.2⟩
   · omega
end Ev
namespace Ev
open Go
abbrev Kv := Value → List Blk → Prop
abbrev Kp := List PanicEntry → List Blk → Prop
abbrev Ks := Exit → List Value → List Blk → Prop
noncomputable def getK (l : List Value) : Nat → (Value → Prop) → Prop :=
 List.rec (fun _ k => k undef) (fun v _ ih n k => match n with | 0 => k v | n + 1 => ih n k) l
noncomputable def setK (l : List Value) : Nat → Value → (List Value → Prop) → Prop :=
 List.rec (fun _ _ k => k []) (fun v t ih n x k => match n with | 0 => k (x :: t) | n + 1 => ih n x fun t' => k (v :: t')) l
noncomputable def forceL {α : Type} (l : List α) : (List α → Prop) → Prop :=
 List.rec (fun k => k []) (fun v _ ih k => ih fun t' => k (v :: t')) l
noncomputable def appK {α : Type} (l : List α) : List α → (List α → Prop) → Prop :=
 List.rec (fun m k => forceL m k) (fun v _ ih m k => ih m fun t' => k (v :: t')) l
theorem getK_eq : ∀ (l : List Value) (n : Nat) (k : Value → Prop), getK l n k = k (l.toArray.getD n undef)
 | v :: _, 0, k => by show k v = _; simp
 | _ :: t, n + 1, k => by show getK t n k = _; rw [getK_eq t n k]; simp
 | [], _, k => by show k undef = _; simp
theorem setK_eq : ∀ (l : List Value) (n : Nat) (x : Value) (k : List Value → Prop), setK l n x k = k (l.set n x)
 | _ :: t, 0, x, k => rfl
 | v :: t, n + 1, x, k => by show setK t n x _ = _; rw [setK_eq t n x]; rfl
 | [], _, _, k => rfl
theorem forceL_eq {α : Type} : ∀ (l : List α) (k : List α → Prop), forceL l k = k l
 | [], k => rfl
 | v :: t, k => by show forceL t _ = _; rw [forceL_eq t]
theorem appK_eq {α : Type} : ∀ (l m : List α) (k : List α → Prop), appK l m k = k (l ++ m)
 | [], l, k => forceL_eq l k
 | v :: t, l, k => by show appK t l _ = _; rw [appK_eq t]; rfl
noncomputable def evK (fr : List Value) (x : Operand) (k : Value → Prop) : Prop :=
 match x with
 | .tmp t => getK fr t k
 | .const v => k v
 | .global g => k (.pointer (some ⟨g, 0, none⟩))
 | .func f => k (.func (.func f) #[] #[])
theorem evK_eq (fr : List Value) (ds : List Deferred) (x : Operand) (k : Value → Prop) : evK fr x k = k (Act.eval ⟨fr.toArray, ds⟩ x) := by
 cases x <;> simp [evK, Act.eval, getK_eq]
noncomputable def evLK (fr : List Value) (l : List Operand) : (List Value → Prop) → Prop :=
 List.rec (fun k => k []) (fun x _ ih k => evK fr x fun v => ih fun l => k (v :: l)) l
theorem evLK_eq (fr : List Value) (ds : List Deferred) : ∀ (l : List Operand) (k : List Value → Prop), evLK fr l k = k (l.map (Act.eval ⟨fr.toArray, ds⟩))
 | [], k => rfl
 | x :: t, k => by show evK fr x (fun v => evLK fr t fun l => k (v :: l)) = _; rw [evK_eq fr ds, evLK_eq fr ds t]; rfl
def PostN (P : Program) (Kn : Value → World → Prop) (Kpn : List PanicEntry → World → Prop) : Result Next → Prop
 | .ok (.value v) w => Kn v w
 | .ok .skip w => Kn undef w
 | .ok (.enter f args) w => Calls P f args w fun
    | .returned v, w' => Kn v w'
    | .panicked ch, w' => Kpn ch w'
    | .outgrown, _ => False
 | .halt (.panic v) w => Kpn [{ v, recovered := false }] w
 | _ => False
structure Runs (P : Program) (s : Sem Next) (M : List Blk) (k : Kv) (pan : Kp) : Prop where
 out : ∀ A w0 w, St A w0 w M → PostN P (fun v w' => ∃ M', St A w0 w' M' ∧ k v M') (fun ch w' => ∃ M', St A w0 w' M' ∧ pan ch M') (s.run P w)
def VS (s : Sem Value) : Sem Next := do pure (.value (← s))
structure Wr (kd : IntKind) (z : Int) (K : Int → Prop) : Prop where
 out : K (kd.wrap z)
structure Zv (z : Int) (K : Int → Prop) : Prop where
 out : K z
structure Nv (z : Nat) (K : Nat → Prop) : Prop where
 out : K z
structure Sv (z : ByteArray) (K : ByteArray → Prop) : Prop where
 out : K z
structure Need (p A : Prop) : Prop where
 out : p ∧ A
structure If (p A B : Prop) : Prop where
 out : (p → A) ∧ (¬ p → B)
structure Ld1 (M : List Blk) (b off : Nat) (k : Value → Prop) : Prop where
 out : ∀ A w0 w, St A w0 w M → ∃ v, w.cell? ⟨b, off, none⟩ = some v ∧ k v
structure LdN (M : List Blk) (b off n : Nat) (k : List Value → Prop) : Prop where
 out : ∀ A w0 w, St A w0 w M → ∃ vs : List Value, vs.length = n ∧ (∀ j v, vs[j]? = some v → w.cell? ⟨b, off + j, none⟩ = some v) ∧ k vs
structure StN (P : Program) (M : List Blk) (b off : Nat) (vs : List Value) (k : List Blk → Prop) : Prop where
 out : ∀ A w0 w, St A w0 w M → ∃ w' M', (storeCells ⟨b, off, none⟩ vs 0).run P w = .ok () w' ∧ St A w0 w' M' ∧ k M'
def enters (P : Program) (f : FuncId) : Bool :=
 match P.funcs[f]? with
 | some fn => fn.name != "runtime.NumGoroutine" && fn.body.isSome
 | none => false
structure Cl (P : Program) (f : FuncId) (args : List Value) (M : List Blk) (k : Kv) (pan : Kp) : Prop where
 out : enters P f = true ∧ ∀ A w0 w, St A w0 w M → Calls P f args.toArray w fun
  | .returned v, w' => ∃ M', St A w0 w' M' ∧ k v M'
  | .panicked ch, w' => ∃ M', St A w0 w' M' ∧ pan ch M'
  | .outgrown, _ => False
theorem wr {kd : IntKind} {z : Int} {K : Int → Prop} (h : ∀ z', z' = kd.wrap z → K z') : Wr kd z K := ⟨h _ rfl⟩
theorem zv {z : Int} {K : Int → Prop} (h : ∀ z', z' = z → K z') : Zv z K := ⟨h _ rfl⟩
theorem nv {z : Nat} {K : Nat → Prop} (h : ∀ z', z' = z → K z') : Nv z K := ⟨h _ rfl⟩
theorem sv {z : ByteArray} {K : ByteArray → Prop} (h : ∀ z', z' = z → K z') : Sv z K := ⟨h _ rfl⟩
theorem need {p A : Prop} (h : p) (ha : A) : Need p A := ⟨⟨h, ha⟩⟩
theorem ifs {p A B : Prop} (h1 : p → A) (h2 : ¬ p → B) : If p A B := ⟨⟨h1, h2⟩⟩
theorem ift {p A B : Prop} (h : p) (h1 : A) : If p A B := ⟨⟨fun _ => h1, fun hn => absurd h hn⟩⟩
theorem iff' {p A B : Prop} (h : ¬ p) (h1 : B) : If p A B := ⟨⟨fun hn => absurd hn h, fun _ => h1⟩⟩
section
variable {P : Program} {M : List Blk} {k : Kv} {pan : Kp}
theorem Runs.val {s : Sem Next} {v : Value} (h : ∀ w, s.run P w = .ok (.value v) w) (hk : k v M) : Runs P s M k pan := by
 refine ⟨fun A w0 w st => ?_⟩
 rw [h w]
 exact ⟨M, st, hk⟩
theorem Runs.congr {s s' : Sem Next} (h : ∀ w, s.run P w = s'.run P w) (hr : Runs P s' M k pan) : Runs P s M k pan := by
 refine ⟨fun A w0 w st => ?_⟩
 rw [h w]
 exact hr.out A w0 w st
end
theorem wp_of_runs {P : Program} {M : List Blk} {k : Kv} {pan : Kp} {o : Oper} {a : Act} (h : Runs P (execOp a.eval o) M k pan) {A : List Blk} {w0 w : World} (st : St A w0 w M)
 {next : Act → World → Prop} {Q : Exit → Act → World → Prop} (h1 : ∀ v w' M', St A w0 w' M' → k v M' → next (a.put o.dst v) w') (h2 : ∀ ch w' M', St A w0 w' M' → pan ch M' → Q (.panic ch) a w') :
 o.wp P a w next Q := by
 have h3 := h.out A w0 w st
 unfold Oper.wp
 generalize (execOp a.eval o).run P w = r at *
 cases r with
 | ok n w' =>
   cases n with
   | value v => obtain ⟨M', s, hk⟩ := h3; exact h1 v w' M' s hk
   | skip => obtain ⟨M', s, hk⟩ := h3; exact h1 undef w' M' s hk
   | enter f args =>
     refine Calls.mono h3 fun e w'' he => ?_
     cases e with
     | returned v => obtain ⟨M', s, hk⟩ := he; exact h1 v w'' M' s hk
     | panicked ch => obtain ⟨M', s, hk⟩ := he; exact h2 ch w'' M' s hk
     | outgrown => exact he.elim
   | _ => exact h3.elim
 | halt x w' =>
   cases x with
   | panic v => obtain ⟨M', s, hk⟩ := h3; exact h2 _ w' M' s hk
   | _ => exact h3.elim
structure Md where
 ld1 : List Blk → Nat → Nat → (Value → Prop) → Prop
 ldN : List Blk → Nat → Nat → Nat → (List Value → Prop) → Prop
 stN : List Blk → Nat → Nat → List Value → (List Blk → Prop) → Prop
 nw : List Value → TypeId → List Blk → (Nat → List Blk → Prop) → Prop
 cl : FuncId → List Value → List Blk → Kv → Kp → Prop
 runs : Sem Next → List Blk → Kv → Kp → Prop
 pan : Prop → Prop
structure Md.Sound (P : Program) (md : Md) : Prop where
 val : ∀ {s M k pan} (v : Value), (∀ w, s.run P w = .ok (.value v) w) → k v M → md.runs s M k pan
 congr : ∀ {s s' : Sem Next} {M k pan}, (∀ w, s.run P w = s'.run P w) → md.runs s' M k pan → md.runs s M k pan
 ld1 : ∀ {s M b off k pan}, md.ld1 M b off (fun v => k v M) → (∀ v w, w.cell? ⟨b, off, none⟩ = some v → s.run P w = .ok (.value v) w) → md.runs s M k pan
 ldN : ∀ {s M b off n k pan}, md.ldN M b off n (fun vs => k (.agg vs.toArray) M) →
  (∀ (vs : List Value) w, vs.length = n → (∀ j v, vs[j]? = some v → w.cell? ⟨b, off + j, none⟩ = some v) → s.run P w = .ok (.value (.agg vs.toArray)) w) → md.runs s M k pan
 stN : ∀ {s M b off vs k pan}, md.stN M b off vs (fun M' => k undef M') → (∀ w w', (storeCells ⟨b, off, none⟩ vs 0).run P w = .ok () w' → s.run P w = .ok .skip w') → md.runs s M k pan
 nw : ∀ {s M cs e k pan} (vf : Nat → Value), md.nw cs e M (fun n M' => k (vf n) M') →
  (∀ w, s.run P w = .ok (.value (vf w.heap.size)) { w with heap := w.heap.push (.cells cs.toArray e) }) → md.runs s M k pan
 cl : ∀ {s M g l k pan}, md.cl g l M k pan → (enters P g = true → ∀ w, s.run P w = .ok (.enter g l.toArray) w) → md.runs s M k pan
 pan : ∀ {s M v k pan}, md.pan (pan [{ v := v, recovered := false }] M) → (∀ w, s.run P w = .halt (.panic v) w) → md.runs s M k pan
def ikEq (a b : IntKind) : Bool := decide (a = b)
def binK (P : Program) (op : BinOp) (t : TypeId) (x y : Value) (M : List Blk) (k : Kv) (other : Prop) : Prop :=
 match x, y with
 | .int kx a, .int ky b =>
   match op with
   | .shl => Need (0 ≤ b) (Wr kx (a * 2 ^ min b.toNat kx.bits) fun z => k (.int kx z) M)
   | .shr => Need (0 ≤ b) (Zv (a.fdiv (2 ^ min b.toNat kx.bits)) fun z => k (.int kx z) M)
   | _ =>
     match ikEq kx ky with
     | false => other
     | true =>
       match op with
       | .add => Wr kx (a + b) fun z => k (.int kx z) M
       | .sub => Wr kx (a - b) fun z => k (.int kx z) M
       | .mul => Wr kx (a * b) fun z => k (.int kx z) M
       | .quo => Need (b ≠ 0) (Wr kx (a.tdiv b) fun z => k (.int kx z) M)
       | .rem => Need (b ≠ 0) (Zv (a.tmod b) fun z => k (.int kx z) M)
       | .lss => If (a < b) (k (.bool true) M) (k (.bool false) M)
       | .leq => If (a ≤ b) (k (.bool true) M) (k (.bool false) M)
       | .gtr => If (b < a) (k (.bool true) M) (k (.bool false) M)
       | .geq => If (b ≤ a) (k (.bool true) M) (k (.bool false) M)
       | .eql => If (a = b) (k (.bool true) M) (k (.bool false) M)
       | .neq => If (a = b) (k (.bool false) M) (k (.bool true) M)
       | .and => Wr kx (BitVec.ofInt kx.bits a &&& BitVec.ofInt kx.bits b).toNat fun z => k (.int kx z) M
       | .or => Wr kx (BitVec.ofInt kx.bits a ||| BitVec.ofInt kx.bits b).toNat fun z => k (.int kx z) M
       | .xor => Wr kx (BitVec.ofInt kx.bits a ^^^ BitVec.ofInt kx.bits b).toNat fun z => k (.int kx z) M
       | .andNot => Wr kx (BitVec.ofInt kx.bits a &&& ~~~ BitVec.ofInt kx.bits b).toNat fun z => k (.int kx z) M
       | _ => other
 | .string a, .string b =>
   match op with
   | .add => Need (((a.size + b.size : Nat) : Int) ≤ IntKind.i64.max) (Sv (a ++ b) fun s => k (.string s) M)
   | .eql => If (a = b) (k (.bool true) M) (k (.bool false) M)
   | .neq => If (a = b) (k (.bool false) M) (k (.bool true) M)
   | .lss => If (Op.bytesLess a.toList b.toList = true) (k (.bool true) M) (k (.bool false) M)
   | .leq => If ((Op.bytesLess a.toList b.toList || a.toList == b.toList) = true) (k (.bool true) M) (k (.bool false) M)
   | .gtr => If ((Op.bytesLess a.toList b.toList || a.toList == b.toList) = true) (k (.bool false) M) (k (.bool true) M)
   | .geq => If (Op.bytesLess a.toList b.toList = true) (k (.bool false) M) (k (.bool true) M)
   | _ => other
 | .bool a, .bool b =>
   match P.underlying t with
   | some .bool =>
     match op with
     | .eql => (match a, b with | true, true => k (.bool true) M | false, false => k (.bool true) M | _, _ => k (.bool false) M)
     | .neq => (match a, b with | true, true => k (.bool false) M | false, false => k (.bool false) M | _, _ => k (.bool true) M)
     | _ => other
   | _ => other
 | .pointer a, .pointer b =>
   match P.underlying t with
   | some (.pointer _) =>
     match op, a, b with
     | .eql, none, none => k (.bool true) M
     | .eql, none, some _ => k (.bool false) M
     | .eql, some _, none => k (.bool false) M
     | .neq, none, none => k (.bool false) M
     | .neq, none, some _ => k (.bool true) M
     | .neq, some _, none => k (.bool true) M
     | _, _, _ => other
   | _ => other
 | _, _ => other
theorem toList_beq (a b : ByteArray) : (a.toList == b.toList) = decide (a = b) := by
 rw [Bool.eq_iff_iff, beq_iff_eq, decide_eq_true_eq]
 constructor
 · intro h
   exact ByteArray.ext (by rw [← Array.toList_inj]; simpa [ByteArray.toList_eq] using h)
 · rintro rfl; rfl
end Ev
namespace Ev
open Go
section
variable {P : Program} {M : List Blk} {k : Kv} {pan : Kp}
theorem wr_out {kd : IntKind} {z : Int} {K : Int → Prop} (h : Wr kd z K) : K (kd.wrap z) := h.out
theorem zv_out {z : Int} {K : Int → Prop} (h : Zv z K) : K z := h.out
theorem nv_out {z : Nat} {K : Nat → Prop} (h : Nv z K) : K z := h.out
theorem sv_out {z : ByteArray} {K : ByteArray → Prop} (h : Sv z K) : K z := h.out
theorem need_out {p A : Prop} (h : Need p A) : p ∧ A := h.out
theorem if_t {p : Prop} [Decidable p] {K : Bool → Prop} (h : If p (K true) (K false)) : K (decide p) := by
 have h := h.out
 by_cases hp : p
 · rw [decide_eq_true hp]; exact h.1 hp
 · rw [decide_eq_false hp]; exact h.2 hp
theorem if_f {p : Prop} [Decidable p] {K : Bool → Prop} (h : If p (K false) (K true)) : K (!decide p) := by
 have h := h.out
 by_cases hp : p
 · rw [decide_eq_true hp]; exact h.1 hp
 · rw [decide_eq_false hp]; exact h.2 hp
theorem eql_eq (a b : Int) : (a == b) = decide (a = b) := by by_cases q : a = b <;> simp [q]
theorem neq_eq (a b : Int) : (a != b) = !decide (a = b) := by by_cases q : a = b <;> simp [q]
theorem guard_int (op : BinOp) (t : TypeId) (ox oy : Operand) (k1 k2 : IntKind) (a b : Int) (w : World) : (eqGuard op t ox oy (.int k1 a) (.int k2 b)).run P w = .ok () w := by
 unfold eqGuard; cases op <;> rfl
theorem guard_string (op : BinOp) (t : TypeId) (ox oy : Operand) (a b : ByteArray) (w : World) : (eqGuard op t ox oy (.string a) (.string b)).run P w = .ok () w := by
 unfold eqGuard; cases op <;> rfl
theorem guard_bool (op : BinOp) (t : TypeId) (ox oy : Operand) (a b : Bool) (w : World) : (eqGuard op t ox oy (.bool a) (.bool b)).run P w = .ok () w := by
 unfold eqGuard; cases op <;> rfl
theorem guard_ptr (op : BinOp) (t : TypeId) (ox oy : Operand) (a b : Option Addr) (w : World) : (eqGuard op t ox oy (.pointer a) (.pointer b)).run P w = .ok () w := by
 unfold eqGuard; cases op <;> rfl
theorem bin_int {md : Md} (sd : md.Sound P) {op : BinOp} {t : TypeId} {kx ky : IntKind} {a b : Int} {other : Prop} {s : Sem Next} (ho : other → md.runs s M k pan) (h : binK P op t (.int kx a) (.int ky b) M k other)
 (hs : ∀ v : Value, (∀ w, (binOp op t (.int kx a) (.int ky b)).run P w = .ok v w) → ∀ w, s.run P w = .ok (.value v) w) : md.runs s M k pan := by
 unfold binK at h
 cases op
 case shl =>
  obtain ⟨h1, h2⟩ := need_out h
  exact sd.val _ (hs _ fun w => by have : ¬ b < 0 := by omega
                                   simp [binOp, Op.shift, this]) (wr_out h2)
 case shr =>
  obtain ⟨h1, h2⟩ := need_out h
  exact sd.val _ (hs _ fun w => by have : ¬ b < 0 := by omega
                                   simp [binOp, Op.shift, this]) (zv_out h2)
 all_goals
  simp only at h
  cases hk : ikEq kx ky with
  | false => rw [hk] at h; exact ho h
  | true =>
    rw [hk] at h
    have e : kx = ky := of_decide_eq_true hk
    subst e
    simp only at h
    first
     | exact ho h
     | exact sd.val _ (hs _ fun w => by simp [binOp, Op.intArith, Op.intBits]) (wr_out h)
     | (obtain ⟨h1, h2⟩ := need_out h
        exact sd.val _ (hs _ fun w => by simp [binOp, Op.intDiv, h1]) (wr_out h2))
     | (obtain ⟨h1, h2⟩ := need_out h
        exact sd.val _ (hs _ fun w => by simp [binOp, Op.intDiv, h1]) (zv_out h2))
     | (refine sd.val _ (hs _ fun w => ?_) (if_t (K := fun b => k (.bool b) M) h); simp [binOp, Op.intCmp, eql_eq]; done) | (refine sd.val _ (hs _ fun w => ?_) (if_f (K := fun b => k (.bool b) M) h); simp [binOp, Op.intCmp, neq_eq]; done)
end
end Ev
end Go.Proofs.YtkjamonkohpcnaaGreat
