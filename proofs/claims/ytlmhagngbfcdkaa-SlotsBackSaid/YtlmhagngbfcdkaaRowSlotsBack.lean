/- The row of the law SlotsBack: whatever comes in, its Go function returns true, and leaves what came in as it was. -/
import Derived.Test.YtlmhagngbfcdkaaRows
import Derived.Test.YtlmhagngbfcdkaaSl22
import Derived.WalkKit
import Derived.ProofKit
import Derived.OpenShut
import Derived.ShutString
import Derived.ChangeOld
import Derived.Below
import Derived.SizedLaws
import Derived.Lib.SmallJoins
namespace Go.Proofs.Ytlmhagngbfcdkaa.slotsBack
open Go.ChangeShapes Go.WideShapes Go.ChangeAt Go.RowKit Go.Joins Go.Proofs.Ytlmhagngbfcdkaa.Ev
open Go.ChangeMaps (open_string shut_string)
set_option linter.unusedVariables false
set_option linter.unusedSimpArgs false
theorem own : ownKnob Try.prog.godebug = none := by kernel_rfl
theorem laidOut : laidOutB Try.prog = true := by kernel_rfl
set_option maxRecDepth 100000 in
theorem lifted (os : Os) (started : os.Started) (H : Type) (enc : TypeId × Value → H) :
    ReturnsInHanded {} Try.checked os 7 .any (Rows.slotsBackSpec.pre6 enc Try.prog Try.f7 Rows.slotsBackRow.domain false) (Rows.slotsBackSpec.post enc Try.prog Try.f7 false true false false) := by
  refine returnsInHanded_of_change_sized (C := Try.checked) own started (by kernel_rfl) Try.func7
    (ChangeSpec.witness6 (enc := enc) (C := Try.checked) false ⟨#[], #[.int .u8 0, .slice none 0 0, .slice none 0 0], []⟩ 8 (by kernel_rfl) (by kernel_rfl) (by kernel_rfl) (by kernel_rfl)) ?_
  intro W base args ds gs before hval0 hW hcnd hsz0 _
  have hsz : (DataW.weightsEach Try.prog (Try.f7.params.toList ++ Rows.slotsBackSpec.plain.varTypes Try.prog) (ds ++ gs)).all (· ≤ reachBytes) = true := hsz0
  have hval : ∀ (j : Nat) t v, Try.f7.params[j]? = some t → args[j]? = some v → Value.okWide Try.prog W .any base t v := hval0
  have hW' := hW
  obtain ⟨p, q, hA0, hV, rfl, hfz, hnd⟩ := hW
  have hA : DataW.TrodAll enc Try.prog W 0 (fun _ => true) true Try.f7.params.toList args.toList ds p := hA0
  rw [Try.params7] at hA hval hsz
  obtain ⟨v0, vs0, d0, ds0, p0, q0, hargs, rfl, rfl, h0, r0⟩ := trodAll_cons hA
  obtain ⟨v1, vs1, d1, ds1, p1, q1, rfl, rfl, rfl, h1, r1⟩ := trodAll_cons r0
  obtain ⟨v2, vs2, d2, ds2, p2, q2, rfl, rfl, rfl, h2, r2⟩ := trodAll_cons r1
  obtain ⟨rfl, rfl, rfl⟩ := trodAll_nil r2
  obtain rfl : args = #[v0, v1, v2] := by cases args; simp_all
  obtain ⟨rfl, rfl⟩ := trodVars_none hV
  have k0 := h0
  have lt0 : ∀ x ∈ p0, x.block < W.heap.size := by obtain ⟨m, hm⟩ := k0; exact DataW.trod_lt m _ _ _ hm
  have k1 := h1
  have lt1 : ∀ x ∈ p1, x.block < W.heap.size := by obtain ⟨m, hm⟩ := k1; exact DataW.trod_lt m _ _ _ hm
  have k2 := h2
  have lt2 : ∀ x ∈ p2, x.block < W.heap.size := by obtain ⟨m, hm⟩ := k2; exact DataW.trod_lt m _ _ _ hm
  obtain ⟨a0, rfl, e0, f0, w0⟩ := open_int Try.underlying5 (hval 0 5 v0 rfl rfl) h0
  obtain ⟨n1, hn1⟩ := h1
  obtain ⟨S1, b1, hv1, w1, wl1, wf1', hm1⟩ := rows_in (k := 6) Try.underlying22 (by kernel_rfl) (by omega) hn1
  obtain ⟨a1, rfl, wf1⟩ := list_of (f := Slots.aL) (fun r hr => Slots.act_of (wf1' r hr))
  rw [List.length_map] at w1 wl1 hv1
  replace hm1 : Mem W (S1.blk (Slots.aLs a1)) := hm1
  obtain ⟨x1, y1, z1, rfl⟩ := okWide_slice Try.underlying22 (hval 1 22 v1 rfl rfl)
  simp only [Value.cells] at hv1; obtain ⟨rfl, rfl, rfl⟩ := Value.slice.inj (List.cons.inj hv1).1
  obtain ⟨n2, hn2⟩ := h2
  obtain ⟨S2, b2, hv2, w2, wl2, wf2', hm2⟩ := rows_in (k := 6) Try.underlying22 (by kernel_rfl) (by omega) hn2
  obtain ⟨a2, rfl, wf2⟩ := list_of (f := Slots.aL) (fun r hr => Slots.act_of (wf2' r hr))
  rw [List.length_map] at w2 wl2 hv2
  replace hm2 : Mem W (S2.blk (Slots.aLs a2)) := hm2
  obtain ⟨x2, y2, z2, rfl⟩ := okWide_slice Try.underlying22 (hval 2 22 v2 rfl rfl)
  simp only [Value.cells] at hv2; obtain ⟨rfl, rfl, rfl⟩ := Value.slice.inj (List.cons.inj hv2).1
  clear hA0 hval0 hsz0 hsz
  refine Calls.mono (walk_ro (Slots.slotsBack a0 a1 a2 S1 S2 (by have := bd_u8 w0; omega) (by have := bd_u8 w0; omega) w1 w2 (by have h9 : maxLen ≤ 9223372036854775807 := (by decide); omega) (by have h9 : maxLen ≤ 9223372036854775807 := (by decide); omega) (S1.blk (Slots.aLs a1) ++ S2.blk (Slots.aLs a2)) (fun b off cap h => by subst h; exact List.mem_append.2 (.inl List.mem_cons_self)) (fun b off cap h => by subst h; exact List.mem_append.2 (.inr List.mem_cons_self))) (Slots.ro_app (Sl.ro _ _) (Sl.ro _ _)) W (Slots.mem_app (Sl.ro _ _) (Sl.ro _ _) hm1 hm2)) fun e W' ⟨he, bel⟩ => ?_
  subst he
  exact ⟨_, rfl, _, _, _, [], _, [], hW', trodAll_mk1 (shut_bool Try.underlying4 _), (trodAll_cons_mk (Below.trod laidOut (by kernel_rfl) (of_decide_eq_true (by kernel_rfl)) k0 bel lt0) (trodAll_cons_mk (Below.trod laidOut (by kernel_rfl) (of_decide_eq_true (by kernel_rfl)) k1 bel lt1) (trodAll_cons_mk (Below.trod laidOut (by kernel_rfl) (of_decide_eq_true (by kernel_rfl)) k2 bel lt2) trodAll_mk0))), rfl, bel.frame _, fun h => by cases h⟩
theorem over : Rows.slotsBackRow.holds Try.pinned (OpenSpec.ofChange Rows.slotsBackSpec) :=
  OpenClaim.holds_of_wide 7 Try.f7 rfl rfl rfl rfl rfl rfl rfl ⟨rfl, rfl, rfl, rfl, rfl⟩ rfl rfl rfl rfl rfl (by kernel_rfl) Try.func7 (by kernel_rfl)
    (of_decide_eq_true (by kernel_rfl)) (by unfold Func.isWrapper; first | (rw [if_pos (by decide +kernel)]; kernel_rfl) | (rw [if_neg (by decide +kernel)]; exact ⟨rfl, rfl⟩))
    (fun os started H enc _ => lifted os started H enc)
theorem proved : Rows.SlotsBackSaid := over
#print axioms proved
end Go.Proofs.Ytlmhagngbfcdkaa.slotsBack
namespace Go.Proofs.Ytlmhagngbfcdkaa
/-- The row, under a short name, for the claim. -/
theorem slotsBack_holds : Rows.SlotsBackSaid := slotsBack.proved
end Go.Proofs.Ytlmhagngbfcdkaa
