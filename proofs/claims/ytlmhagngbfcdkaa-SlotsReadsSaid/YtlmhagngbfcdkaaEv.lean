/- A way to walk Go functions by evaluation: one function over the model's code that comes to a plain proposition, and the proof that this proposition says what the machine does. -/
import Derived.Calls
import Derived.Deep.Quiet
import Derived.StillTail
import Derived.Below
import Derived.WalkKit
namespace Go.Proofs.Ytlmhagngbfcdkaa.Ev
open Go
set_option linter.unusedVariables false
set_option linter.unusedSimpArgs false

/-! ### What is known of memory -/

/-- What is known of a block: all of its cells (none frozen), some of its cells (to be read alone), or another object. -/
inductive BO where
  | cells (cs : List Value) (t : TypeId)
  | row (cs : List Value) (t : TypeId)
  | ro (off : Nat) (cs : List Value)
  | obj (o : Obj)

structure Blk where
  n : Nat
  o : BO

def Blk.ro (b : Blk) : Bool := match b.o with | .ro _ _ => true | _ => false

def Obj.isCells : Obj → Bool
  | .cells .. => true
  | _ => false

def Blk.holds (w : World) (b : Blk) : Prop :=
  match b.o with
  | .cells cs t => w.heap[b.n]? = some (.cells cs.toArray t (0, 0))
  | .row cs t => w.heap[b.n]? = some (.cells cs.toArray t (0, 0))
  | .ro off cs => b.n < w.heap.size ∧ ∀ j v, cs[j]? = some v → w.cell? ⟨b.n, off + j, none⟩ = some v
  | .obj o => w.heap[b.n]? = some o ∧ Obj.isCells o = false

def Blk.apart (a b : Blk) : Prop := a.n = b.n → a.ro = true ∧ b.ro = true

theorem Blk.apart.symm {a b : Blk} (h : a.apart b) : b.apart a := fun e => (h e.symm).symm

def Mem (w : World) (M : List Blk) : Prop := (∀ b ∈ M, b.holds w) ∧ M.Pairwise Blk.apart

theorem Blk.holds.lt {w : World} {b : Blk} (h : b.holds w) : b.n < w.heap.size := by
  unfold Blk.holds at h
  split at h
  · exact (Array.getElem?_eq_some_iff.1 h).1
  · exact (Array.getElem?_eq_some_iff.1 h).1
  · exact h.1
  · exact (Array.getElem?_eq_some_iff.1 h.1).1

theorem Blk.holds.same {w w' : World} {b : Blk} (h : b.holds w) (he : w'.heap[b.n]? = w.heap[b.n]?) : b.holds w' := by
  have hl := h.lt
  unfold Blk.holds at *
  split
  · rename_i ho; simp only [ho] at h; rw [he]; exact h
  · rename_i ho; simp only [ho] at h; rw [he]; exact h
  · rename_i ho
    simp only [ho] at h
    refine ⟨?_, fun j v hj => ?_⟩
    · rw [Array.getElem?_eq_getElem hl] at he
      exact (Array.getElem?_eq_some_iff.1 he).1
    · have := h.2 j v hj
      unfold World.cell? at *
      simp only [he]
      exact this
  · rename_i ho; simp only [ho] at h; rw [he]; exact h

/-- From the world w0, in which the blocks A were known, to the world w, in which the blocks M are. -/
structure St (A : List Blk) (w0 w : World) (M : List Blk) : Prop where
  os : w.os = w0.os
  tape : w.tape = w0.tape
  output : w.output = w0.output
  size : w0.heap.size ≤ w.heap.size
  keep : ∀ k, k < w0.heap.size → (∀ b ∈ A, b.ro = false → b.n ≠ k) → w.heap[k]? = w0.heap[k]?
  has : ∀ b ∈ M, b.holds w
  own : ∀ b ∈ M, (∃ a ∈ A, a.n = b.n ∧ (a.ro = true → b.ro = true)) ∨ w0.heap.size ≤ b.n
  apart : M.Pairwise Blk.apart

theorem St.init {w : World} {A : List Blk} (h : Mem w A) : St A w w A :=
  ⟨rfl, rfl, rfl, Nat.le_refl _, fun _ _ _ => rfl, h.1, fun b hb => .inl ⟨b, hb, rfl, id⟩, h.2⟩

theorem St.mem {A M : List Blk} {w0 w : World} (h : St A w0 w M) : Mem w M := ⟨h.has, h.apart⟩

theorem St.drew {A M : List Blk} {w0 w : World} (h : St A w0 w M) (n : Nat) : St A w0 { w with drawn := n } M :=
  ⟨h.os, h.tape, h.output, h.size, h.keep, fun b hb => (h.has b hb).same rfl, h.own, h.apart⟩

/-- A new block. -/
theorem St.new {A M : List Blk} {w0 w : World} (h : St A w0 w M) (o : Obj) (bo : BO) (hh : (⟨w.heap.size, bo⟩ : Blk).holds { w with heap := w.heap.push o }) :
    St A w0 { w with heap := w.heap.push o } (⟨w.heap.size, bo⟩ :: M) := by
  have old : ∀ k, k < w.heap.size → (w.heap.push o)[k]? = w.heap[k]? := fun k hk => by rw [Array.getElem?_push, if_neg (by omega)]
  refine ⟨h.os, h.tape, h.output, by have := h.size; simp; omega, fun k hk hA => ?_, fun b hb => ?_, fun b hb => ?_, ?_⟩
  · have := h.size
    exact (old k (by omega)).trans (h.keep k hk hA)
  · rcases List.mem_cons.1 hb with rfl | hb
    · exact hh
    · exact (h.has b hb).same (old _ (h.has b hb).lt)
  · rcases List.mem_cons.1 hb with rfl | hb
    · exact .inr h.size
    · exact h.own b hb
  · refine List.pairwise_cons.2 ⟨fun b hb e => ?_, h.apart⟩
    have := (h.has b hb).lt
    simp only at e
    omega

/-- Block n of M is known to be o. -/
class Look (M : List Blk) (n : Nat) (o : outParam BO) : Prop where
  mem : (⟨n, o⟩ : Blk) ∈ M
instance (priority := high) Look.here {M : List Blk} {n : Nat} {o : BO} : Look (⟨n, o⟩ :: M) n o := ⟨List.mem_cons_self⟩
instance (priority := low) Look.there {M : List Blk} {n : Nat} {o : BO} {b : Blk} [h : Look M n o] : Look (b :: M) n o := ⟨List.mem_cons_of_mem _ h.mem⟩

/-- M' is M, in which block n has turned from o to o'. -/
class Upd (M : List Blk) (n : Nat) (o : outParam BO) (o' : BO) (M' : outParam (List Blk)) : Prop where
  split : ∃ L R, M = L ++ ⟨n, o⟩ :: R ∧ M' = L ++ ⟨n, o'⟩ :: R
instance (priority := high) Upd.here {M : List Blk} {n : Nat} {o o' : BO} : Upd (⟨n, o⟩ :: M) n o o' (⟨n, o'⟩ :: M) := ⟨[], M, rfl, rfl⟩
instance (priority := low) Upd.there {M M' : List Blk} {n : Nat} {o o' : BO} {b : Blk} [h : Upd M n o o' M'] : Upd (b :: M) n o o' (b :: M') :=
  ⟨let ⟨L, R, h1, h2⟩ := h.split; ⟨b :: L, R, by rw [h1]; rfl, by rw [h2]; rfl⟩⟩

/-- A block of M is written. -/
theorem St.set {A M M' : List Blk} {w0 w w' : World} {n : Nat} {o o' : BO} (h : St A w0 w M) (hu : Upd M n o o' M') (hro : (⟨n, o⟩ : Blk).ro = false)
    (hos : w'.os = w.os) (htape : w'.tape = w.tape) (hout : w'.output = w.output) (hsize : w.heap.size ≤ w'.heap.size)
    (hk : ∀ k, k ≠ n → k < w.heap.size → w'.heap[k]? = w.heap[k]?) (hh : (⟨n, o'⟩ : Blk).holds w') (hro' : (⟨n, o'⟩ : Blk).ro = false) : St A w0 w' M' := by
  obtain ⟨L, R, h1, h2⟩ := hu.split
  subst h1; subst h2
  have hp := h.apart
  rw [List.pairwise_append, List.pairwise_cons] at hp
  obtain ⟨p1, ⟨p2, p3⟩, p4⟩ := hp
  have hmem : (⟨n, o⟩ : Blk) ∈ L ++ ⟨n, o⟩ :: R := by simp
  have ne : ∀ b, b ∈ L ∨ b ∈ R → b.n ≠ n := fun b hb e => by
    rcases hb with hb | hb
    · have := (p4 b hb ⟨n, o⟩ List.mem_cons_self e).2
      rw [hro] at this; cases this
    · have := (p2 b hb e.symm).1
      rw [hro] at this; cases this
  refine ⟨hos.trans h.os, htape.trans h.tape, hout.trans h.output, Nat.le_trans h.size hsize, fun k hk0 hA => ?_, fun b hb => ?_, fun b hb => ?_, ?_⟩
  · have hsz := h.size
    by_cases e : k = n
    · subst e
      rcases h.own _ hmem with ⟨a, ha, e1, e2⟩ | h3
      · by_cases hra : a.ro = true
        · have := e2 hra
          rw [hro] at this; cases this
        · exact absurd e1 (hA a ha (by simpa using hra))
      · simp only at h3; omega
    · exact (hk k e (by omega)).trans (h.keep k hk0 hA)
  · rcases List.mem_append.1 hb with hb | hb
    · have hm : b ∈ L ++ ⟨n, o⟩ :: R := List.mem_append.2 (.inl hb)
      exact (h.has b hm).same (hk _ (ne b (.inl hb)) (h.has b hm).lt)
    · rcases List.mem_cons.1 hb with rfl | hb
      · exact hh
      · have hm : b ∈ L ++ ⟨n, o⟩ :: R := List.mem_append.2 (.inr (List.mem_cons_of_mem _ hb))
        exact (h.has b hm).same (hk _ (ne b (.inr hb)) (h.has b hm).lt)
  · rcases List.mem_append.1 hb with hb | hb
    · exact h.own b (List.mem_append.2 (.inl hb))
    · rcases List.mem_cons.1 hb with rfl | hb
      · rcases h.own _ hmem with ⟨a, ha, e1, e2⟩ | h3
        · exact .inl ⟨a, ha, e1, fun hr => by have := e2 hr; rw [hro] at this; cases this⟩
        · exact .inr h3
      · exact h.own b (List.mem_append.2 (.inr (List.mem_cons_of_mem _ hb)))
  · rw [List.pairwise_append, List.pairwise_cons]
    refine ⟨p1, ⟨fun b hb e => absurd e.symm (ne b (.inr hb)), p3⟩, fun a ha b hb => ?_⟩
    rcases List.mem_cons.1 hb with rfl | hb
    · exact fun e => absurd e (ne a (.inl ha))
    · exact p4 a ha b (List.mem_cons_of_mem _ hb)

/-- One block, or some, taken out of M; the rest. -/
inductive Take : List Blk → Blk → List Blk → Prop where
  | here {M b} : Take (b :: M) b M
  | there {M b c R} (h : Take M b R) : Take (c :: M) b (c :: R)
inductive Takes : List Blk → List Blk → List Blk → Prop where
  | nil {M} : Takes M [] M
  | cons {M b M1 A R} (h : Take M b M1) (hs : Takes M1 A R) : Takes M (b :: A) R

theorem Take.perm {M R : List Blk} {b : Blk} (h : Take M b R) : M.Perm (b :: R) := by
  induction h with
  | here => exact .refl _
  | there h ih => exact (ih.cons _).trans (.swap _ _ _)
theorem Takes.perm {M A R : List Blk} (h : Takes M A R) : M.Perm (A ++ R) := by
  induction h with
  | nil => exact .refl _
  | cons h hs ih => exact h.perm.trans (ih.cons _)

theorem St.perm {A M M' : List Blk} {w0 w : World} (h : St A w0 w M) (hp : M.Perm M') : St A w0 w M' :=
  ⟨h.os, h.tape, h.output, h.size, h.keep, fun b hb => h.has b (hp.mem_iff.2 hb), fun b hb => h.own b (hp.mem_iff.2 hb), (hp.pairwise_iff Blk.apart.symm).1 h.apart⟩

theorem St.left {A M R : List Blk} {w0 w : World} (h : St A w0 w (M ++ R)) : St A w0 w M :=
  ⟨h.os, h.tape, h.output, h.size, h.keep, fun b hb => h.has b (List.mem_append.2 (.inl hb)), fun b hb => h.own b (List.mem_append.2 (.inl hb)), (List.pairwise_append.1 h.apart).1⟩

/-- A call that asks for the blocks A1 alone leaves the rest as it is. -/
theorem St.call {A A1 A1' R : List Blk} {w0 w w' : World} (h : St A w0 w (A1 ++ R)) (h1 : St A1 w w' A1') : St A w0 w' (A1' ++ R) := by
  have hp := List.pairwise_append.1 h.apart
  have hsz := h.size
  refine ⟨h1.os.trans h.os, h1.tape.trans h.tape, h1.output.trans h.output, Nat.le_trans h.size h1.size, fun k hk hA => ?_, fun b hb => ?_, fun b hb => ?_, ?_⟩
  · refine (h1.keep k (by omega) fun b hb hro e => ?_).trans (h.keep k hk hA)
    rcases h.own b (List.mem_append.2 (.inl hb)) with ⟨a, ha, e1, e2⟩ | h3
    · by_cases hra : a.ro = true
      · have := e2 hra
        rw [hro] at this; cases this
      · exact hA a ha (by simpa using hra) (e1.trans e)
    · omega
  · rcases List.mem_append.1 hb with hb | hb
    · exact h1.has b hb
    · have hb' := h.has b (List.mem_append.2 (.inr hb))
      refine hb'.same (h1.keep _ hb'.lt fun a ha hro e => ?_)
      have := (hp.2.2 a ha b hb e).1
      rw [hro] at this; cases this
  · rcases List.mem_append.1 hb with hb | hb
    · rcases h1.own b hb with ⟨a1, ha1, e1, e2⟩ | h3
      · rcases h.own a1 (List.mem_append.2 (.inl ha1)) with ⟨a, ha, e3, e4⟩ | h4
        · exact .inl ⟨a, ha, e3.trans e1, fun hr => e2 (e4 hr)⟩
        · exact .inr (by omega)
      · exact .inr (by omega)
    · exact h.own b (List.mem_append.2 (.inr hb))
  · refine List.pairwise_append.2 ⟨h1.apart, hp.2.1, fun a' ha' r hr e => ?_⟩
    have hr' := (h.has r (List.mem_append.2 (.inr hr))).lt
    rcases h1.own a' ha' with ⟨a1, ha1, e1, e2⟩ | h3
    · have := hp.2.2 a1 ha1 r hr (e1.trans e)
      exact ⟨e2 this.1, this.2⟩
    · omega
end Go.Proofs.Ytlmhagngbfcdkaa.Ev
