/- Slices that come in as arguments and are only read. -/
import Derived.Test.YtlmhagngbfcdkaaEl
import Derived.ChangeSlices
import Derived.Deep.SlicePairs
namespace Go.Proofs.Ytlmhagngbfcdkaa.Ev
open Go
set_option linter.unusedVariables false
set_option linter.unusedSimpArgs false

instance (priority := low) Look.app_left {M K : List Blk} {n : Nat} {o : BO} [h : Look M n o] : Look (M ++ K) n o := ⟨List.mem_append_left _ h.mem⟩
instance (priority := low) Look.app_right {M K : List Blk} {n : Nat} {o : BO} [h : Look M n o] : Look (K ++ M) n o := ⟨List.mem_append_right _ h.mem⟩

/-- A slice that is only read: none of its elements is asked for, or they lie in a block. -/
inductive Sl where
  | no (p : Option Addr) (c : Nat)
  | at_ (b off cap : Nat)
def Sl.p : Sl → Option Addr
  | .no p _ => p
  | .at_ b off _ => some ⟨b, off, none⟩
def Sl.c : Sl → Nat
  | .no _ c => c
  | .at_ _ _ cap => cap
abbrev Sl.val (S : Sl) (n : Nat) : Value := .slice S.p n S.c
def Sl.blk (S : Sl) (xs : List Value) : List Blk :=
  match S with
  | .no _ _ => []
  | .at_ b off _ => [⟨b, .ro off xs⟩]
def Sl.ok (S : Sl) (n : Nat) : Prop :=
  match S with
  | .no _ _ => n = 0
  | .at_ _ _ _ => True
instance Sl.look {b off cap : Nat} {xs : List Value} : Look ((Sl.at_ b off cap).blk xs) b (.ro off xs) := ⟨List.mem_cons_self⟩
theorem Sl.ro (S : Sl) (xs : List Value) : ∀ b ∈ S.blk xs, b.ro = true := by
  cases S with
  | no p c => intro b hb; cases hb
  | at_ b off cap => intro b hb; simp only [Sl.blk, List.mem_singleton] at hb; subst hb; rfl

theorem walk_ro {P : Program} {f : FuncId} {args : List Value} {A : List Blk} {v : Value} (h : Fnc P f args A (Ret v A)) (hro : ∀ b ∈ A, b.ro = true) (w : World) (hm : Mem w A) :
    Calls P f args.toArray w fun e w' => e = .returned v ∧ RowKit.Below w.heap.size w w' :=
  (h.out.2 w hm).mono fun e w' ⟨A', s1, h1, h2⟩ => ⟨h1, s1.os, s1.tape, s1.output, s1.size, fun k hk => s1.keep k hk fun b hb hb' => by rw [hro b hb] at hb'; cases hb'⟩

/-- A slice of ints that came in. -/
theorem ints_in {H : Type} {enc : TypeId × Value → H} {P : Program} {w : World} {base : Nat} {spare : Nat → Bool} {held : Bool} {t e : TypeId} {kd : IntKind} {fuel : Nat} {cs : List Value} {x : DataW H × List MemPlace} (ht : P.underlying t = some (.slice e)) (he : P.underlying e = some (.int kd)) (hc : P.cellsOf e = 1)
    (h : DataW.trod enc P w base spare held fuel t cs = some x) :
    ∃ (S : Sl) (l : List Int), cs = [S.val l.length] ∧ S.ok l.length ∧ l.length ≤ maxLen ∧ (∀ z ∈ l, (Lit.int kd z).wf = true) ∧ Mem w (S.blk (l.map (.int kd))) := by
  rcases ChangeShapes.open_ints ht he hc h with ⟨rfl, _⟩ | ⟨a, len, cap, zs, rfl, _, hl, hm, hlen, _, hcell, hwf⟩
  · exact ⟨.no none 0, [], rfl, rfl, Nat.zero_le _, by simp, fun b hb => (by cases hb), List.Pairwise.nil⟩
  · have hle : len ≤ zs.length := by rw [hlen]; split <;> omega
    have hl' : (zs.take len).length = len := by rw [List.length_take]; omega
    by_cases h0 : len = 0
    · subst h0
      exact ⟨.no (some a) cap, [], rfl, rfl, Nat.zero_le _, by simp, fun b hb => (by cases hb), List.Pairwise.nil⟩
    · have c0 := hcell 0 (by omega)
      have hsp : a.spot = none := by
        unfold World.cell? Addr.add at c0
        simp only [if_pos] at c0
        split at c0
        · cases hs : a.spot with
          | none => rfl
          | some s => rw [hs] at c0; simp at c0
        · cases c0
      obtain ⟨b, off, spot⟩ := a
      simp only at hsp
      subst hsp
      refine ⟨.at_ b off cap, zs.take len, by rw [hl']; rfl, trivial, by omega, fun z hz => hwf z (List.mem_of_mem_take hz), ?_, List.pairwise_singleton _ _⟩
      intro bb hb
      simp only [Sl.blk, List.mem_singleton] at hb
      subst hb
      refine ⟨?_, fun j v hj => ?_⟩
      · unfold World.cell? Addr.add at c0
        simp only [if_pos] at c0
        split at c0
        · exact (Array.getElem?_eq_some_iff.1 ‹_›).1
        · cases c0
      · rw [List.getElem?_map, List.getElem?_take] at hj
        by_cases hjl : j < len
        · rw [if_pos hjl, List.getElem?_eq_getElem (by omega)] at hj
          simp only [Option.map_some, Option.some.injEq] at hj
          subst hj
          have := hcell j (by omega)
          rw [List.getD_eq_getElem?_getD, List.getElem?_eq_getElem (by omega)] at this
          simp only [Option.getD_some] at this
          rw [← this, add_none]
        · rw [if_neg hjl] at hj; cases hj
theorem takes_all : ∀ {M : List Blk}, Takes M M []
  | [] => .nil
  | _ :: _ => .cons .here takes_all
theorem call_same {P : Program} {f : FuncId} {args : List Value} {M : List Blk} {v : Value} {k : Kv} {pan : Kp} (h : Fnc P f args M (Ret v M)) (hk : k v M) : Cl P f args M k pan :=
  call_ret h (R := []) takes_all (by rw [appM_eq, List.append_nil]; exact hk)
theorem fin_right {K M : List Blk} {Q : List Blk → Prop} (h : Fin M Q) : Fin (K ++ M) Q := by
  obtain ⟨A', R, hp, hq⟩ := h.out
  exact ⟨⟨A', K ++ R, (hp.append_left K).trans (by rw [← List.append_assoc, ← List.append_assoc]; exact List.perm_append_comm.append_right R), hq⟩⟩
end Go.Proofs.Ytlmhagngbfcdkaa.Ev
