/- Texts of this proof, merged. -/
import Derived.Test.YtkjamonkohpcnaaGreatAk10
import Derived.Scope
set_option linter.unusedVariables false
set_option linter.unusedSimpArgs false
set_option linter.unusedSectionVars false
set_option maxRecDepth 100000
set_option maxHeartbeats 16000000
namespace Go.Proofs.YtkjamonkohpcnaaGreat
namespace Tree
open Go Ev Sha Aes Orc Node
open Rig (RigP Rg rgM readR writeR z64 app_of)
theorem scope_rule {P : Program} {c : Code} {fr : List Value} {M : List Blk} {K : Ks} (h : cw P c fr M (fun e fr' M' => match e with | .goto _ => False | e => K e fr' M')) : CodeW P (.scope c) fr M K := by
 refine ⟨fun A w0 w ds st => wp_scope_straight (wp_mono (cw_sound c fr M _ h A w0 w ds st) fun e a' w' hq => ?_)⟩
 obtain ⟨fr', M', rfl, st', hk⟩ := hq
 cases e with
 | goto l => exact hk.elim
 | _ => exact ⟨fr', M', rfl, st', hk⟩
structure DnP where
 r : RigP
 ts : List ByteArray
 t : TreP
 sum : Dg
 l : Nat → ByteArray
 e : Int
def updB (f : Nat → ByteArray) (i : Nat) (s : ByteArray) : Nat → ByteArray := fun j => if j = i then s else f j
noncomputable def dnS (leaf i : Nat) (p : DnP) : DnP :=
 ⟨(nodeT p.r p.ts p.t (at_ leaf (i + 1)) p.sum).r, (nodeT p.r p.ts p.t (at_ leaf (i + 1)) p.sum).ts, (nodeT p.r p.ts p.t (at_ leaf (i + 1)) p.sum).t,
   if (nodeT p.r p.ts p.t (at_ leaf (i + 1)) p.sum).e = 0 then splitD (nodeT p.r p.ts p.t (at_ leaf (i + 1)) p.sum).s (side leaf i) else p.sum,
   updB p.l i (nodeT p.r p.ts p.t (at_ leaf (i + 1)) p.sum).s, (nodeT p.r p.ts p.t (at_ leaf (i + 1)) p.sum).e⟩
noncomputable def dn (leaf : Nat) (p : DnP) : Nat → DnP
 | 0 => p
 | k + 1 => if (dn leaf p k).e ≠ 0 then dn leaf p k else dnS leaf (5 - k) (dn leaf p k)
noncomputable def dn0 (r : RigP) (ts : List ByteArray) (t : TreP) : DnP := ⟨r, ts, t, t.root, fun _ => ByteArray.empty, 0⟩
noncomputable def downT (r : RigP) (ts : List ByteArray) (t : TreP) (leaf : Nat) : DnP := dn leaf (dn0 r ts t) 6
theorem dn_0 (leaf : Nat) (p : DnP) : dn leaf p 0 = p := rfl
theorem dn_s {leaf : Nat} {p : DnP} {k : Nat} (h : (dn leaf p k).e = 0) : dn leaf p (k + 1) = dnS leaf (5 - k) (dn leaf p k) := by
 show (if (dn leaf p k).e ≠ 0 then _ else _) = _
 rw [if_neg (by simp [h])]
theorem dn_stop {leaf : Nat} {p : DnP} {k : Nat} (h : (dn leaf p k).e ≠ 0) : ∀ j, dn leaf p (k + j) = dn leaf p k
 | 0 => rfl
 | j + 1 => by
   have ih := dn_stop h j
   show (if (dn leaf p (k + j)).e ≠ 0 then dn leaf p (k + j) else dnS leaf (5 - (k + j)) (dn leaf p (k + j))) = _
   rw [ih, if_pos h]
theorem nodeD_len (ts : List ByteArray) (s : ByteArray) : (nodeD ts s).1.length ≤ ts.length + 1 := by
 unfold nodeD; split
 · exact addT_len _ _
 · simp
theorem leafD_len (ts : List ByteArray) (s : ByteArray) : (leafD ts s).1.length ≤ ts.length + 1 := by
 unfold leafD; split
 · exact addT_len _ _
 · simp
theorem readT_len {sf : List ByteArray → ByteArray → List ByteArray × Dg} (hsf : ∀ ts s, (sf ts s).1.length ≤ ts.length + 1) (r : RigP) (ts : List ByteArray) (d a : Int) (want : Dg) : (readT sf r ts d a want).2.1.length ≤ ts.length + 1 := by
 unfold readT
 split
 · simp
 · split <;> exact hsf _ _
theorem nodeT_len (r : RigP) (ts : List ByteArray) (t : TreP) (n : Nat) (want : Dg) : (nodeT r ts t n want).ts.length ≤ ts.length + 1 := by
 unfold nodeT
 split
 · simp
 · split <;> exact readT_len nodeD_len _ _ _ _ _
theorem dn_len (leaf : Nat) (p : DnP) : ∀ k, (dn leaf p k).ts.length ≤ p.ts.length + k
 | 0 => Nat.le_refl _
 | k + 1 => by
   have ih := dn_len leaf p k
   show (if (dn leaf p k).e ≠ 0 then dn leaf p k else dnS leaf (5 - k) (dn leaf p k)).ts.length ≤ _
   split
   · omega
   · have := nodeT_len (dn leaf p k).r (dn leaf p k).ts (dn leaf p k).t (at_ leaf (5 - k + 1)) (dn leaf p k).sum
     show (nodeT (dn leaf p k).r (dn leaf p k).ts (dn leaf p k).t (at_ leaf (5 - k + 1)) (dn leaf p k).sum).ts.length ≤ _
     omega
def rowL (f : Nat → ByteArray) : List Value := (List.range 6).map fun i => .string (f i)
theorem rowL_len (f : Nat → ByteArray) : (rowL f).length = 6 := by unfold rowL; simp
theorem rowL_z : rowL (fun _ => ByteArray.empty) = List.replicate 6 (Value.string ByteArray.empty) := by unfold rowL; rfl
theorem rowL_at {f : Nat → ByteArray} {k : Nat} (h : k < 6) : (rowL f)[k]? = some (.string (f k)) := by unfold rowL; rw [List.getElem?_map, List.getElem?_range h]; rfl
theorem rowL_set {f : Nat → ByteArray} {k : Nat} {s : ByteArray} (h : k < 6) : (rowL f).set k (.string s) = rowL (updB f k s) := by
 apply List.ext_getElem?
 intro j
 rw [List.getElem?_set, rowL_len]
 by_cases hj : j < 6
 · rw [rowL_at hj, rowL_at hj]
   unfold updB
   by_cases e : k = j
   · rw [if_pos e, if_pos h, if_pos e.symm]
   · rw [if_neg e, if_neg (Ne.symm e)]
 · rw [if_neg (by omega), List.getElem?_eq_none (by rw [rowL_len]; omega), List.getElem?_eq_none (by rw [rowL_len]; omega)]
def wyC (v : Value) (sum : Dg) : List Value := v :: (dgV sum ++ [])
theorem wyC_len (v : Value) (sum : Dg) : (wyC v sum).length = 33 := by unfold wyC; simp [dgV_len]
theorem wyC_z : wyC (.slice none 0 0) zD = .slice none 0 0 :: List.replicate 32 (Value.int .u8 0) := by unfold wyC; rw [dgV_z]; rfl
theorem wyC_0 {v : Value} {sum : Dg} : (wyC v sum)[0 + 0]? = some v := rfl
theorem wyC_r (v : Value) (sum : Dg) : ((wyC v sum).drop (0 + 1)).take (dgV sum).length = dgV sum := by
 show (dgV sum ++ []).take (dgV sum).length = dgV sum
 rw [List.append_nil, List.take_length]
theorem wyC_one {v : Value} (hv : v.oneCell' = true) (sum : Dg) : ∀ u ∈ wyC v sum, u.oneCell' = true := by
 intro u hu
 unfold wyC at hu
 rw [List.append_nil] at hu
 rcases List.mem_cons.1 hu with rfl | hu
 · exact hv
 · exact dgV_one _ u hu
theorem fldN_root {RO : List Blk} {n : Nat} {T : TypeId} {rn on sn kn : Nat} {d : Int} {root : Dg} {K : List Value → Prop} [h : Look RO n (.row (treC rn on d root sn kn) T)] (hk : K (dgV root)) : FLdN RO n (0 + 3) 32 K :=
 ⟨⟨dgV root, dgV_len _, fun w hw => row_at (hw.1 _ h.mem) (treC_r _ _ _ _ _ _), hk⟩⟩
section
variable {P : Program} {M : List Blk} {n : Nat} {T : TypeId} {f : Blk → List Blk}
theorem ldN_wsum {v : Value} {sum : Dg} {K : List Value → Prop} [h : Look M n (.row (wyC v sum) T)] (hk : K (dgV sum)) : LdN M n (0 + 1) 32 K := ldN_row (dgV sum) (wyC_r _ _) (dgV_len _) hk
theorem st_wsum {v : Value} {sum b : Dg} {K : List Blk → Prop} [z : Zip M n (.row (wyC v sum) T) f] (hk : K (f ⟨n, .row (wyC v b) T⟩)) : StN P M n (0 + 1) (dgV b) K :=
 st_rowN (dgV_one b) (by rw [wyC_len, dgV_len]; omega) (by
  have : (wyC v sum).take (0 + 1) ++ dgV b ++ (wyC v sum).drop (0 + 1 + (dgV b).length) = wyC v b := by
   rw [dgV_len]
   show ([v] ++ dgV b) ++ ((dgV sum ++ []).drop 32) = _
   rw [List.drop_left' (dgV_len sum)]; rfl
  rw [this]; exact hk)
theorem st_way {v v' : Value} {sum b : Dg} {K : List Blk → Prop} (hv : v'.oneCell' = true) [z : Zip M n (.row (wyC v sum) T) f] (hk : K (f ⟨n, .row (wyC v' b) T⟩)) : StN P M n 0 (wyC v' b) K :=
 st_whole (wyC_one hv b) (by rw [wyC_len, wyC_len]) hk
theorem ldN_way {v : Value} {sum : Dg} {K : List Value → Prop} [h : Look M n (.row (wyC v sum) T)] (hk : K (wyC v sum)) : LdN M n 0 33 K := ldN_whole (wyC_len _ _) hk
theorem st_L {l : Nat → ByteArray} {i : Nat} {s : ByteArray} {K : List Blk → Prop} [z : Zip M n (.row (rowL l) T) f] (hi : i < 6) (hk : K (f ⟨n, .row (rowL (updB l i s)) T⟩)) : StN P M n i [.string s] K :=
 st_row rfl (by rw [rowL_len]; exact hi) (by rw [rowL_set hi]; exact hk)
end
theorem st_wz {P : Program} {M : List Blk} {n : Nat} {T : TypeId} {f : Blk → List Blk} {v : Value} {sum : Dg} {K : List Blk → Prop} [z : Zip M n (.row (wyC v sum) T) f] (hk : K (f ⟨n, .row (wyC (.slice none 0 0) zD) T⟩)) : StN P M n 0 (.slice none 0 0 :: List.replicate 32 (Value.int .u8 0)) K := by
 rw [← wyC_z]; exact st_way rfl hk
theorem wy_e (v : Value) (sum : Dg) : ([v] ++ dgV sum) ++ [] = wyC v sum := rfl
instance (priority := 3000) lookTre {n : Nat} {x : Tre} : Look (treM n x) n (.row (treC x.a.rn x.a.on x.t.d x.t.root x.a.sn x.a.kn) 242) := ⟨List.mem_cons_self⟩
instance (priority := 3000) lookTreS {n : Nat} {x : Tre} {S : List Blk} : Look (treM n x ++ S) n (.row (treC x.a.rn x.a.on x.t.d x.t.root x.a.sn x.a.kn) 242) := ⟨List.mem_append.2 (.inl List.mem_cons_self)⟩
theorem kept_wg {M R : List Blk} {wn gp : Nat} {o1 o2 : BO} {k : Prop} [h1 : TakeC M wn o1 R] [h2 : Look R gp o2] (h : k) : Kept [⟨wn, o1⟩, ⟨gp, o2⟩] M k := kept2 (n' := gp) h1.out h
abbrev wB (n : Nat) (v : Value) (sum : Dg) : Blk := ⟨n, .row (wyC v sum) 235⟩
abbrev lB (n : Nat) (l : Nat → ByteArray) : Blk := ⟨n, .row (rowL l) 9⟩
abbrev sl6 (n : Nat) : Value := .slice (some ⟨n, 0, none⟩) 6 6
attribute [local irreducible] dgV D vS mapK Instr.lookup Instr.mapUpdate Instr.makeMap Builtin.len_ treC readR readT nodeT wyC rowL pathV at_ Instr.makeSlice
theorem tdown (g : Rg) (o : Orc) (tn : Nat) (a : TreA) (t : TreP) (leaf : Nat) (hl : leaf < 64) (hrn : a.rn = g.a.rn) (hon : a.on = o.on) (hb : o.ts.length ≤ 1099511620000) :
 Fnc Tryz.prog 166 [pt tn, .int .i64 leaf] (rgM g ++ (orcM o ++ treM tn ⟨a, t⟩))
  (fun e A => ∃ o' : Orc, o'.on = o.on ∧ o'.ts = (downT g.r o.ts t leaf).ts ∧ ∃ ln,
    A = lB ln (downT g.r o.ts t leaf).l :: (rgM ⟨g.a, (downT g.r o.ts t leaf).r⟩ ++ (orcM o' ++ treM tn ⟨a, (downT g.r o.ts t leaf).t⟩)) ∧
    e = .returned (.tuple #[.agg (if (downT g.r o.ts t leaf).e = 0 then wyC (sl6 ln) (downT g.r o.ts t leaf).sum else wyC (.slice none 0 0) zD).toArray, .int .i64 (downT g.r o.ts t leaf).e])) := by
 have hz := wyC_z
 have hpath := path_ leaf hl
 refine fn_intro Tryz.func166 (by kernel_rfl) ?_
 repeat' ((conv => whnf); first
  | refine nw_row hz (fun n => ?_))
 revert n; intro rn4
 refine scope_rule ?_
 repeat' ((conv => whnf); first
  | (refine call_g hpath .nil (fun e A' hq => ?_); obtain ⟨S, hS, h1, h2⟩ := hq; subst h1; subst h2) | (refine ifs (fun h => ?_) (fun h => ?_) <;> try (exfalso; first | omega | with_reducible first | contradiction | exact h rfl)))
 cases S with
 | nil => have := hS.2; simp only at this; omega
 | at_ gp cap junk =>
   have hjl : ∀ k, k < 6 → (pathV leaf 6 ++ junk)[k]? = some (.int .i64 (at_ leaf (k + 1) : Nat)) := fun k hk => by
    rw [List.getElem?_append_left (by rw [pathV_len]; exact hk), pathV_at hk]
   simp only [Own.blk]
   refine draw_tree 6 (.take 0 (.take 1 (.take 3 (.take 4 (.take 5 (.take 6 (.two 2 8 (.take 7 (.only 8 (.only 9 .nil))) (.only 2 (.take 7 (.only 9 .nil)))))))))) [⟨tn, _⟩] rfl (by kernel_rfl) (kept1 (n := tn) ?_)
   repeat' ((conv => whnf); first
    | refine And.intro ?_ ?_ | refine kept1 (n := tn) ?_ | refine fldN_root (n := tn) ?_ | refine mk_row rfl rfl rfl rfl rfl (by decide) (by decide) (by decide) (fun n => ?_) | (refine bld_cons (vs := [_]) rfl rfl rfl (Nat.le_of_ble_eq_true rfl) rfl ?_; refine bld_cons (vs := dgV t.root) (cs1 := wyC (sl6 _) t.root) rfl rfl (dgV_len _) (Nat.le_of_ble_eq_true rfl) (wy_e _ _) ?_; refine bld_nil ?_) | refine nw_row hz (fun n => ?_) | refine force_of ?_ | refine need (wyC_len _ _) ?_ | refine st_way rfl ?_ | (refine wr (fun z hz => ?_); (try rw [Int.tdiv_eq_ediv_of_nonneg (by omega)] at hz); rw [w64 (by omega) (by omega)] at hz; subst hz))
   all_goals (conv => whnf)
   · revert n; intro wn
     revert n; intro ln
     obtain ⟨p0, hp0⟩ : ∃ p, p = dn0 g.r o.ts t := ⟨_, rfl⟩
     have hD : downT g.r o.ts t leaf = dn leaf p0 6 := by rw [hp0]; rfl
     rw [hD]
     refine loop_rule [10, 7] (fun vs M m => ∃ (k : Nat) (q : Orc), vs = [.int .i64 (5 - (k : Int)), .int .i64 0] ∧ k ≤ 6 ∧ (dn leaf p0 k).e = 0 ∧ q.on = o.on ∧ q.ts = (dn leaf p0 k).ts ∧ m = 6 - k ∧
      M = wB wn (sl6 ln) (dn leaf p0 k).sum :: lB ln (dn leaf p0 k).l :: ⟨gp, .row (pathV leaf 6 ++ junk) 3⟩ :: wB rn4 (.slice none 0 0) zD :: (rgM ⟨g.a, (dn leaf p0 k).r⟩ ++ (orcM q ++ treM tn ⟨a, (dn leaf p0 k).t⟩))) rfl ?_ ?_
     · exact fin_g (A := ⟨wn, _⟩ :: ⟨ln, _⟩ :: ⟨gp, _⟩ :: ⟨rn4, _⟩ :: (rgM g ++ (orcM o ++ treM tn ⟨a, t⟩))) (.blk takeC (.blk takeC (.blk takeC (.blk takeC (.grp takeG (.grp takeG (.one takeG))))))) ⟨_, 0, o, rfl, by omega, by rw [dn_0, hp0]; rfl, rfl, by rw [dn_0, hp0]; rfl, rfl, by rw [dn_0, hp0]; unfold dn0 lB; simp only; rw [rowL_z]; rfl⟩
     rintro vs junk2 M' m ⟨k, q, rfl, hk, he0, hq1, hq2, rfl, rfl⟩
     have hlen := dn_len leaf p0 k
     have hlen2 : p0.ts.length = o.ts.length := by rw [hp0]; rfl
     have hnext := dn_s he0
     have hstop : (dn leaf p0 (k + 1)).e ≠ 0 → k < 6 → dn leaf p0 6 = dn leaf p0 (k + 1) := fun h h6 => by
      have := dn_stop h (6 - (k + 1))
      rwa [show k + 1 + (6 - (k + 1)) = 6 by omega] at this
     obtain ⟨p, ep⟩ : ∃ p, p = dn leaf p0 k := ⟨_, rfl⟩
     rw [← ep] at he0 hq2 hlen hnext ⊢
     by_cases hk6 : k < 6
     · have hnode := tnode ⟨g.a, p.r⟩ q tn a p.t (at_ leaf (5 - k + 1)) p.sum (at_node hl (by omega)) hrn (hon.trans hq1.symm) (by rw [hq2]; omega)
       rw [hq2] at hnode
       have hside := side_ leaf (5 - k) hl (by omega)
       by_cases hx : (nodeT p.r p.ts p.t (at_ leaf (5 - k + 1)) p.sum).e = 0
       · obtain ⟨x, ex⟩ : ∃ x, x = nodeT p.r p.ts p.t (at_ leaf (5 - k + 1)) p.sum := ⟨_, rfl⟩
         have hdn : dn leaf p0 (k + 1) = ⟨x.r, x.ts, x.t, splitD x.s (side leaf (5 - k)), updB p.l (5 - k) x.s, 0⟩ := by
          rw [hnext]; unfold dnS; rw [← ex] at hx ⊢; rw [if_pos hx, hx]
         dsimp only at hnode
         rw [← ex] at hnode
         rw [← ex] at hx
         rw [hx] at hnode
         have hl2 : (rowL (updB p.l (5 - k) x.s))[5 - k]? = some (.string x.s) := by rw [rowL_at (by omega)]; unfold updB; rw [if_pos rfl]
         repeat' ((conv => whnf); first
          | refine draw_any 11 [(0, true), (2, true), (3, true), (4, true), (5, true), (6, true), (8, true), (1, true), (7, true), (9, false), (10, false), (11, true), (12, true), (13, true), (14, true), (15, false), (16, true)] [⟨wn, _⟩, ⟨gp, _⟩] rfl (by kernel_rfl) (kept_wg (wn := wn) (gp := gp) ?_) | refine kept_wg (wn := wn) (gp := gp) ?_ | refine nv_eq (a := 5 - k) (by omega) ?_ | refine fld1_row (n := wn) wyC_0 ?_ | refine fld1_row (n := gp) (hjl (5 - k) (by omega)) ?_ | refine ld1_row (n := gp) (hjl (5 - k) (by omega)) ?_ | refine ld1_row (n := wn) wyC_0 ?_ | refine ld1_row (n := ln) hl2 ?_ | refine ldN_wsum (n := wn) ?_ | (refine call_go hnode (.grp takeG (.grp takeG (.one takeG))) (fun o2 g1 g2 => ?_)) | refine call_val hside ?_ | refine call_val (split_ x.s (side leaf (5 - k)) (side_le _ _)) ?_ | refine st_L (n := ln) (by omega) ?_ | refine force_of ?_ | refine need (dgV_len _) ?_ | refine st_wsum (n := wn) ?_ | refine need (by first | rfl | omega) ?_ | (refine wr (fun z hz => ?_); (try rw [Int.tdiv_eq_ediv_of_nonneg (by omega)] at hz); rw [w64 (by omega) (by omega)] at hz; subst hz) | (refine ifs (fun h => ?_) (fun h => ?_) <;> try (exfalso; first | omega | with_reducible first | contradiction | exact h rfl)))
         all_goals (conv => whnf)
         all_goals exact ⟨rfl, fin_g (A := ⟨wn, _⟩ :: ⟨ln, _⟩ :: ⟨gp, _⟩ :: ⟨rn4, _⟩ :: (rgM ⟨g.a, _⟩ ++ (orcM o2 ++ treM tn ⟨a, _⟩))) (.blk takeC (.blk takeC (.blk takeC (.blk takeC (.grp takeG (.grp takeG (.one takeG))))))) ⟨6 - (k + 1), by omega, k + 1, o2, by rw [show (5 - ((k + 1 : Nat) : Int)) = 5 - (k : Int) - 1 by omega], by omega, by rw [hdn], by rw [g1, hq1], by rw [g2, hdn], rfl, by rw [hdn]⟩⟩
       · obtain ⟨x, ex⟩ : ∃ x, x = nodeT p.r p.ts p.t (at_ leaf (5 - k + 1)) p.sum := ⟨_, rfl⟩
         have hdn : dn leaf p0 (k + 1) = ⟨x.r, x.ts, x.t, p.sum, updB p.l (5 - k) x.s, x.e⟩ := by
          rw [hnext]; unfold dnS; rw [← ex] at hx ⊢; rw [if_neg hx]
         dsimp only at hnode
         rw [← ex] at hnode
         rw [← ex] at hx
         rw [hstop (by rw [hdn]; exact hx) hk6, hdn]
         dsimp only
         obtain ⟨xe, exe⟩ : ∃ z, z = x.e := ⟨_, rfl⟩
         rw [← exe] at hnode hx ⊢
         repeat' ((conv => whnf); first
          | refine draw_any 11 [(0, true), (2, true), (3, true), (4, true), (5, true), (6, true), (8, true), (1, true), (7, true), (9, false), (10, false), (11, true), (12, true), (13, true), (14, true), (15, false), (16, true)] [⟨wn, _⟩, ⟨gp, _⟩] rfl (by kernel_rfl) (kept_wg (wn := wn) (gp := gp) ?_) | refine kept_wg (wn := wn) (gp := gp) ?_ | refine nv_eq (a := 5 - k) (by omega) ?_ | refine fld1_row (n := wn) wyC_0 ?_ | refine fld1_row (n := gp) (hjl (5 - k) (by omega)) ?_ | refine ldN_wsum (n := wn) ?_ | (refine call_go hnode (.grp takeG (.grp takeG (.one takeG))) (fun o2 g1 g2 => ?_)) | refine st_L (n := ln) (by omega) ?_ | refine iff' hx ?_ | refine bld_nil ?_ | refine ldN_way ?_ | refine st_wz (n := rn4) ?_ | refine need (by first | rfl | omega) ?_ | (refine ifs (fun h => ?_) (fun h => ?_) <;> try (exfalso; first | omega | with_reducible first | contradiction | exact h rfl)))
         all_goals (conv => whnf)
         all_goals exact fin_g (A := ⟨ln, _⟩ :: (rgM ⟨g.a, _⟩ ++ (orcM o2 ++ treM tn ⟨a, _⟩))) (.blk takeC (.grp takeG (.grp takeG (.one takeG)))) ⟨o2, by rw [g1, hq1], g2, ln, rfl, by rw [if_neg hx]; rfl⟩
     · obtain rfl : k = 6 := by omega
       rw [← ep, he0]
       repeat' ((conv => whnf); first
        | refine force_of ?_ | refine ldN_way (n := wn) ?_ | refine ldN_way (n := rn4) ?_ | refine st_way (n := rn4) rfl ?_ | refine need (wyC_len _ _) ?_ | (refine ifs (fun h => ?_) (fun h => ?_) <;> try (exfalso; first | omega | with_reducible first | contradiction | exact h rfl)))
       all_goals (conv => whnf)
       all_goals exact fin_g (A := ⟨ln, _⟩ :: (rgM ⟨g.a, _⟩ ++ (orcM q ++ treM tn ⟨a, _⟩))) (.blk takeC (.grp takeG (.grp takeG (.one takeG)))) ⟨q, hq1, hq2, ln, rfl, by rw [if_pos rfl]; rfl⟩
   · revert n; intro ln
     revert n; intro wn
     obtain ⟨p0, hp0⟩ : ∃ p, p = dn0 g.r o.ts t := ⟨_, rfl⟩
     have hD : downT g.r o.ts t leaf = dn leaf p0 6 := by rw [hp0]; rfl
     rw [hD]
     refine loop_rule [10, 7] (fun vs M m => ∃ (k : Nat) (q : Orc), vs = [.int .i64 (5 - (k : Int)), .int .i64 0] ∧ k ≤ 6 ∧ (dn leaf p0 k).e = 0 ∧ q.on = o.on ∧ q.ts = (dn leaf p0 k).ts ∧ m = 6 - k ∧
      M = wB wn (sl6 ln) (dn leaf p0 k).sum :: lB ln (dn leaf p0 k).l :: ⟨gp, .row (pathV leaf 6 ++ junk) 3⟩ :: wB rn4 (.slice none 0 0) zD :: (rgM ⟨g.a, (dn leaf p0 k).r⟩ ++ (orcM q ++ treM tn ⟨a, (dn leaf p0 k).t⟩))) rfl ?_ ?_
     · exact fin_g (A := ⟨wn, _⟩ :: ⟨ln, _⟩ :: ⟨gp, _⟩ :: ⟨rn4, _⟩ :: (rgM g ++ (orcM o ++ treM tn ⟨a, t⟩))) (.blk takeC (.blk takeC (.blk takeC (.blk takeC (.grp takeG (.grp takeG (.one takeG))))))) ⟨_, 0, o, rfl, by omega, by rw [dn_0, hp0]; rfl, rfl, by rw [dn_0, hp0]; rfl, rfl, by rw [dn_0, hp0]; unfold dn0 lB; simp only; rw [rowL_z]; rfl⟩
     rintro vs junk2 M' m ⟨k, q, rfl, hk, he0, hq1, hq2, rfl, rfl⟩
     have hlen := dn_len leaf p0 k
     have hlen2 : p0.ts.length = o.ts.length := by rw [hp0]; rfl
     have hnext := dn_s he0
     have hstop : (dn leaf p0 (k + 1)).e ≠ 0 → k < 6 → dn leaf p0 6 = dn leaf p0 (k + 1) := fun h h6 => by
      have := dn_stop h (6 - (k + 1))
      rwa [show k + 1 + (6 - (k + 1)) = 6 by omega] at this
     obtain ⟨p, ep⟩ : ∃ p, p = dn leaf p0 k := ⟨_, rfl⟩
     rw [← ep] at he0 hq2 hlen hnext ⊢
     by_cases hk6 : k < 6
     · have hnode := tnode ⟨g.a, p.r⟩ q tn a p.t (at_ leaf (5 - k + 1)) p.sum (at_node hl (by omega)) hrn (hon.trans hq1.symm) (by rw [hq2]; omega)
       rw [hq2] at hnode
       have hside := side_ leaf (5 - k) hl (by omega)
       by_cases hx : (nodeT p.r p.ts p.t (at_ leaf (5 - k + 1)) p.sum).e = 0
       · obtain ⟨x, ex⟩ : ∃ x, x = nodeT p.r p.ts p.t (at_ leaf (5 - k + 1)) p.sum := ⟨_, rfl⟩
         have hdn : dn leaf p0 (k + 1) = ⟨x.r, x.ts, x.t, splitD x.s (side leaf (5 - k)), updB p.l (5 - k) x.s, 0⟩ := by
          rw [hnext]; unfold dnS; rw [← ex] at hx ⊢; rw [if_pos hx, hx]
         dsimp only at hnode
         rw [← ex] at hnode
         rw [← ex] at hx
         rw [hx] at hnode
         have hl2 : (rowL (updB p.l (5 - k) x.s))[5 - k]? = some (.string x.s) := by rw [rowL_at (by omega)]; unfold updB; rw [if_pos rfl]
         repeat' ((conv => whnf); first
          | refine draw_any 11 [(0, true), (2, true), (3, true), (4, true), (5, true), (6, true), (8, true), (1, true), (7, true), (9, false), (10, false), (11, true), (12, true), (13, true), (14, true), (15, false), (16, true)] [⟨wn, _⟩, ⟨gp, _⟩] rfl (by kernel_rfl) (kept_wg (wn := wn) (gp := gp) ?_) | refine kept_wg (wn := wn) (gp := gp) ?_ | refine nv_eq (a := 5 - k) (by omega) ?_ | refine fld1_row (n := wn) wyC_0 ?_ | refine fld1_row (n := gp) (hjl (5 - k) (by omega)) ?_ | refine ld1_row (n := gp) (hjl (5 - k) (by omega)) ?_ | refine ld1_row (n := wn) wyC_0 ?_ | refine ld1_row (n := ln) hl2 ?_ | refine ldN_wsum (n := wn) ?_ | (refine call_go hnode (.grp takeG (.grp takeG (.one takeG))) (fun o2 g1 g2 => ?_)) | refine call_val hside ?_ | refine call_val (split_ x.s (side leaf (5 - k)) (side_le _ _)) ?_ | refine st_L (n := ln) (by omega) ?_ | refine force_of ?_ | refine need (dgV_len _) ?_ | refine st_wsum (n := wn) ?_ | refine need (by first | rfl | omega) ?_ | (refine wr (fun z hz => ?_); (try rw [Int.tdiv_eq_ediv_of_nonneg (by omega)] at hz); rw [w64 (by omega) (by omega)] at hz; subst hz) | (refine ifs (fun h => ?_) (fun h => ?_) <;> try (exfalso; first | omega | with_reducible first | contradiction | exact h rfl)))
         all_goals (conv => whnf)
         all_goals exact ⟨rfl, fin_g (A := ⟨wn, _⟩ :: ⟨ln, _⟩ :: ⟨gp, _⟩ :: ⟨rn4, _⟩ :: (rgM ⟨g.a, _⟩ ++ (orcM o2 ++ treM tn ⟨a, _⟩))) (.blk takeC (.blk takeC (.blk takeC (.blk takeC (.grp takeG (.grp takeG (.one takeG))))))) ⟨6 - (k + 1), by omega, k + 1, o2, by rw [show (5 - ((k + 1 : Nat) : Int)) = 5 - (k : Int) - 1 by omega], by omega, by rw [hdn], by rw [g1, hq1], by rw [g2, hdn], rfl, by rw [hdn]⟩⟩
       · obtain ⟨x, ex⟩ : ∃ x, x = nodeT p.r p.ts p.t (at_ leaf (5 - k + 1)) p.sum := ⟨_, rfl⟩
         have hdn : dn leaf p0 (k + 1) = ⟨x.r, x.ts, x.t, p.sum, updB p.l (5 - k) x.s, x.e⟩ := by
          rw [hnext]; unfold dnS; rw [← ex] at hx ⊢; rw [if_neg hx]
         dsimp only at hnode
         rw [← ex] at hnode
         rw [← ex] at hx
         rw [hstop (by rw [hdn]; exact hx) hk6, hdn]
         dsimp only
         obtain ⟨xe, exe⟩ : ∃ z, z = x.e := ⟨_, rfl⟩
         rw [← exe] at hnode hx ⊢
         repeat' ((conv => whnf); first
          | refine draw_any 11 [(0, true), (2, true), (3, true), (4, true), (5, true), (6, true), (8, true), (1, true), (7, true), (9, false), (10, false), (11, true), (12, true), (13, true), (14, true), (15, false), (16, true)] [⟨wn, _⟩, ⟨gp, _⟩] rfl (by kernel_rfl) (kept_wg (wn := wn) (gp := gp) ?_) | refine kept_wg (wn := wn) (gp := gp) ?_ | refine nv_eq (a := 5 - k) (by omega) ?_ | refine fld1_row (n := wn) wyC_0 ?_ | refine fld1_row (n := gp) (hjl (5 - k) (by omega)) ?_ | refine ldN_wsum (n := wn) ?_ | (refine call_go hnode (.grp takeG (.grp takeG (.one takeG))) (fun o2 g1 g2 => ?_)) | refine st_L (n := ln) (by omega) ?_ | refine iff' hx ?_ | refine bld_nil ?_ | refine ldN_way ?_ | refine st_wz (n := rn4) ?_ | refine need (by first | rfl | omega) ?_ | (refine ifs (fun h => ?_) (fun h => ?_) <;> try (exfalso; first | omega | with_reducible first | contradiction | exact h rfl)))
         all_goals (conv => whnf)
         all_goals exact fin_g (A := ⟨ln, _⟩ :: (rgM ⟨g.a, _⟩ ++ (orcM o2 ++ treM tn ⟨a, _⟩))) (.blk takeC (.grp takeG (.grp takeG (.one takeG)))) ⟨o2, by rw [g1, hq1], g2, ln, rfl, by rw [if_neg hx]; rfl⟩
     · obtain rfl : k = 6 := by omega
       rw [← ep, he0]
       repeat' ((conv => whnf); first
        | refine force_of ?_ | refine ldN_way (n := wn) ?_ | refine ldN_way (n := rn4) ?_ | refine st_way (n := rn4) rfl ?_ | refine need (wyC_len _ _) ?_ | (refine ifs (fun h => ?_) (fun h => ?_) <;> try (exfalso; first | omega | with_reducible first | contradiction | exact h rfl)))
       all_goals (conv => whnf)
       all_goals exact fin_g (A := ⟨ln, _⟩ :: (rgM ⟨g.a, _⟩ ++ (orcM q ++ treM tn ⟨a, _⟩))) (.blk takeC (.grp takeG (.grp takeG (.one takeG)))) ⟨q, hq1, hq2, ln, rfl, by rw [if_pos rfl]; rfl⟩
theorem path_no (l : Int) (hl : ¬ (0 ≤ l ∧ l < 64)) : Fnc Tryz.prog 210 [.int .i64 l] [] (Ret (.tuple #[.slice none 0 0, .int .i64 3]) []) := by
 refine fn_intro Tryz.func210 (by kernel_rfl) ?_
 repeat' ((conv => whnf); first
  | (refine ifs (fun h => ?_) (fun h => ?_) <;> try (exfalso; first | omega | with_reducible first | contradiction | exact h rfl)))
 all_goals (conv => whnf)
 all_goals exact fin_nil ⟨rfl, rfl⟩
theorem tdown_no (tn : Nat) (l : Int) (hl : ¬ (0 ≤ l ∧ l < 64)) : Fnc Tryz.prog 166 [pt tn, .int .i64 l] [] (Ret (.tuple #[.agg (wyC (.slice none 0 0) zD).toArray, .int .i64 3]) []) := by
 have hz := wyC_z
 have hpath := path_no l hl
 refine fn_intro Tryz.func166 (by kernel_rfl) ?_
 repeat' ((conv => whnf); first
  | refine nw_row hz (fun n => ?_) | refine scope_rule ?_ | refine call_val hpath ?_ | refine bld_nil ?_ | refine st_wz ?_ | refine ldN_way ?_ | refine need (by first | rfl | omega) ?_ | (refine ifs (fun h => ?_) (fun h => ?_) <;> try (exfalso; first | omega | with_reducible first | contradiction | exact h rfl)))
 all_goals (conv => whnf)
 all_goals exact fin_nil ⟨rfl, rfl⟩
end Tree
namespace Tree
open Go Ev Sha Aes Orc Node
open Rig (RigP Rg rgM readR writeR z64 app_of)
noncomputable def getX (p : DnP) (leaf : Nat) : RigP × List ByteArray × ByteArray × Int :=
 match getS p.t.sheet (224 + leaf : Nat) with
 | some s => (p.r, p.ts, s, 0)
 | none => readT leafD p.r p.ts p.t.d (224 + leaf : Nat) p.sum
structure GetR where
 r : RigP
 ts : List ByteArray
 t : TreP
 s : ByteArray
 is : Bool
 e : Int
open Classical in
noncomputable def getT (r : RigP) (ts : List ByteArray) (t : TreP) (leaf : Nat) : GetR :=
 if (downT r ts t leaf).e ≠ 0 then ⟨(downT r ts t leaf).r, (downT r ts t leaf).ts, (downT r ts t leaf).t, ByteArray.empty, false, (downT r ts t leaf).e⟩
 else if (getX (downT r ts t leaf) leaf).2.2.2 ≠ 0 ∨ (getX (downT r ts t leaf) leaf).2.2.1 = z64 then
  ⟨(getX (downT r ts t leaf) leaf).1, (getX (downT r ts t leaf) leaf).2.1, (downT r ts t leaf).t, ByteArray.empty, false, (getX (downT r ts t leaf) leaf).2.2.2⟩
 else ⟨(getX (downT r ts t leaf) leaf).1, (getX (downT r ts t leaf) leaf).2.1, (downT r ts t leaf).t, (getX (downT r ts t leaf) leaf).2.2.1, true, 0⟩
theorem getT_1 {r : RigP} {ts : List ByteArray} {t : TreP} {leaf : Nat} {p : DnP} (hp : p = downT r ts t leaf) (h : p.e ≠ 0) : getT r ts t leaf = ⟨p.r, p.ts, p.t, ByteArray.empty, false, p.e⟩ := by
 subst hp; unfold getT; rw [if_pos h]
theorem getT_2 {r : RigP} {ts : List ByteArray} {t : TreP} {leaf : Nat} {p : DnP} (hp : p = downT r ts t leaf) (h : p.e = 0) {x : RigP × List ByteArray × ByteArray × Int} (hx : getX p leaf = x) (h2 : x.2.2.2 ≠ 0 ∨ x.2.2.1 = z64) : getT r ts t leaf = ⟨x.1, x.2.1, p.t, ByteArray.empty, false, x.2.2.2⟩ := by
 subst hp; subst hx; unfold getT; rw [if_neg (by simp [h]), if_pos h2]
theorem getT_3 {r : RigP} {ts : List ByteArray} {t : TreP} {leaf : Nat} {p : DnP} (hp : p = downT r ts t leaf) (h : p.e = 0) {x : RigP × List ByteArray × ByteArray × Int} (hx : getX p leaf = x) (h2 : ¬ (x.2.2.2 ≠ 0 ∨ x.2.2.1 = z64)) : getT r ts t leaf = ⟨x.1, x.2.1, p.t, x.2.2.1, true, 0⟩ := by
 subst hp; subst hx; unfold getT; rw [if_neg (by simp [h]), if_neg h2]
attribute [local irreducible] dgV D vS mapK Instr.lookup Instr.mapUpdate Instr.makeMap Builtin.len_ treC readR readT nodeT wyC rowL pathV at_ Instr.makeSlice downT getT z64 convert Builtin.copy_ Builtin.append_
theorem tbare : Fnc Tryz.prog 173 [] [] (Ret (.string z64) []) := by
 have hz : str (List.replicate 64 0) = z64 := by unfold z64; rfl
 refine fn_intro Tryz.func173 (by kernel_rfl) ?_
 repeat' ((conv => whnf); first
  | refine mk_row rfl rfl rfl rfl rfl (by decide) (by decide) (by decide) (fun n => ?_) | (refine b2s_row (t := 5) (l := List.replicate 64 0) (junk := []) (by simp [u8s]) rfl rfl rfl (by simp) ?_; rw [hz]))
 all_goals (conv => whnf)
 all_goals exact fin_nil ⟨rfl, rfl⟩
theorem getV_some {l : List (Int × ByteArray)} {k : Int} {s : ByteArray} (h : getS l k = some s) : getV l k = s := by unfold getV; rw [h]; rfl
theorem tget (g : Rg) (o : Orc) (tn : Nat) (a : TreA) (t : TreP) (leaf : Nat) (hl : leaf < 64) (hrn : a.rn = g.a.rn) (hon : a.on = o.on) (hb : o.ts.length ≤ 1099511620000) :
 Fnc Tryz.prog 102 [pt tn, .int .i64 leaf] (rgM g ++ (orcM o ++ treM tn ⟨a, t⟩))
  (RetO o (getT g.r o.ts t leaf).ts (fun o' => rgM ⟨g.a, (getT g.r o.ts t leaf).r⟩ ++ (orcM o' ++ treM tn ⟨a, (getT g.r o.ts t leaf).t⟩)) (.tuple #[.string (getT g.r o.ts t leaf).s, .bool (getT g.r o.ts t leaf).is, .int .i64 (getT g.r o.ts t leaf).e])) := by
 have hz := wyC_z
 have hdown := tdown g o tn a t leaf hl hrn hon hb
 have hla := leafAt_ok hl
 have hlen := dn_len leaf (dn0 g.r o.ts t) 6
 obtain ⟨p, ep⟩ : ∃ p, p = downT g.r o.ts t leaf := ⟨_, rfl⟩
 rw [← ep] at hdown
 have hlen : p.ts.length ≤ o.ts.length + 6 := by rw [ep]; unfold downT; exact hlen
 by_cases he : p.e = 0
 · cases hg : getS p.t.sheet (224 + leaf : Nat) with
   | some s =>
     have hx : getX p leaf = (p.r, p.ts, s, 0) := by unfold getX; rw [hg]
     have hsg := sget a.sn a.mn p.t.sheet (224 + leaf : Nat)
     rw [getV_some hg, hg] at hsg
     by_cases hs : s = z64
     · rw [getT_2 ep he hx (.inr hs)]
       dsimp only
       refine fn_intro Tryz.func102 (by kernel_rfl) ?_
       repeat' ((conv => whnf); first
        | (refine call_g hdown (.grp takeG (.grp takeG (.one takeG))) (fun e A' hq => ?_); obtain ⟨o1, a1, a2, ln, h1, h2⟩ := hq; rw [he, if_pos rfl] at h2; subst h1; subst h2; unfold treM) | refine nw_row hz (fun n => ?_) | refine force_of ?_ | refine need (wyC_len _ _) ?_ | refine st_way rfl ?_ | refine call_val hla ?_ | refine call_val tbare ?_ | refine ld1_row (n := tn) treC_s ?_ | refine call_gr hsg (.blk takeC (.blk takeC .nil)) ?_ | refine ift hs ?_ | refine ld1_lit ?_ | refine nw (fun n => ?_) | (refine ifs (fun h => ?_) (fun h => ?_) <;> try (exfalso; first | omega | with_reducible first | contradiction | exact h rfl)))
       all_goals (conv => whnf)
       all_goals exact fin_g (A := rgM ⟨g.a, _⟩ ++ (orcM o1 ++ [⟨tn, _⟩, ⟨a.sn, _⟩, ⟨a.mn, _⟩, ⟨a.kn, _⟩])) (.grp takeG (.grp takeG (.blk takeC (.blk takeC (.blk takeC (.blk takeC .nil)))))) ⟨o1, a1, a2, rfl, rfl⟩
     · rw [getT_3 ep he hx (by rintro (h | h) <;> contradiction)]
       dsimp only
       refine fn_intro Tryz.func102 (by kernel_rfl) ?_
       repeat' ((conv => whnf); first
        | (refine call_g hdown (.grp takeG (.grp takeG (.one takeG))) (fun e A' hq => ?_); obtain ⟨o1, a1, a2, ln, h1, h2⟩ := hq; rw [he, if_pos rfl] at h2; subst h1; subst h2; unfold treM) | refine nw_row hz (fun n => ?_) | refine force_of ?_ | refine need (wyC_len _ _) ?_ | refine st_way rfl ?_ | refine call_val hla ?_ | refine call_val tbare ?_ | refine ld1_row (n := tn) treC_s ?_ | refine call_gr hsg (.blk takeC (.blk takeC .nil)) ?_ | refine iff' hs ?_ | refine ld1_lit ?_ | refine nw (fun n => ?_) | (refine ifs (fun h => ?_) (fun h => ?_) <;> try (exfalso; first | omega | with_reducible first | contradiction | exact h rfl)))
       all_goals (conv => whnf)
       all_goals exact fin_g (A := rgM ⟨g.a, _⟩ ++ (orcM o1 ++ [⟨tn, _⟩, ⟨a.sn, _⟩, ⟨a.mn, _⟩, ⟨a.kn, _⟩])) (.grp takeG (.grp takeG (.blk takeC (.blk takeC (.blk takeC (.blk takeC .nil)))))) ⟨o1, a1, a2, rfl, rfl⟩
   | none =>
     have hx : getX p leaf = readT leafD p.r p.ts p.t.d (224 + leaf : Nat) p.sum := by unfold getX; rw [hg]
     have hsg := sget a.sn a.mn p.t.sheet (224 + leaf : Nat)
     rw [show getV p.t.sheet (224 + leaf : Nat) = ByteArray.empty by unfold getV; rw [hg]; rfl, hg] at hsg
     have hr : ∀ (o1 : Orc) (c : Nat), o1.on = o.on → o1.ts = p.ts → Fnc Tryz.prog 171 [pt tn, .int .i64 (224 + leaf : Nat), .func (.func 172) #[] #[pt c], .agg (dgV p.sum).toArray] (rgM ⟨g.a, p.r⟩ ++ (orcM o1 ++ [cT c tn, tB tn a p.t.d p.t.root]))
      (RetO o1 (readT leafD p.r p.ts p.t.d (224 + leaf : Nat) p.sum).2.1 (fun o' => rgM ⟨g.a, (readT leafD p.r p.ts p.t.d (224 + leaf : Nat) p.sum).1⟩ ++ (orcM o' ++ [cT c tn, tB tn a p.t.d p.t.root])) (.tuple #[.string (readT leafD p.r p.ts p.t.d (224 + leaf : Nat) p.sum).2.2.1, .int .i64 (readT leafD p.r p.ts p.t.d (224 + leaf : Nat) p.sum).2.2.2])) := fun o1 c h1 h2 => by
      have := tread leafD ⟨g.a, p.r⟩ o1 a p.t.d p.t.root tn c (224 + leaf : Nat) p.sum 172 hrn (fun s => cl_leaf o1 a p.t.d p.t.root tn c s (hon.trans h1.symm) (by rw [h2]; omega))
      rw [h2] at this
      exact this
     obtain ⟨x, ex⟩ : ∃ x, x = readT leafD p.r p.ts p.t.d (224 + leaf : Nat) p.sum := ⟨_, rfl⟩
     rw [← ex] at hx hr
     by_cases hxe : x.2.2.2 = 0
     · rw [hxe] at hr
       by_cases hs : x.2.2.1 = z64
       · rw [getT_2 ep he hx (.inr hs)]
         dsimp only
         rw [hxe]
         refine fn_intro Tryz.func102 (by kernel_rfl) ?_
         repeat' ((conv => whnf); first
          | (refine call_g hdown (.grp takeG (.grp takeG (.one takeG))) (fun e A' hq => ?_); obtain ⟨o1, a1, a2, ln, h1, h2⟩ := hq; rw [he, if_pos rfl] at h2; subst h1; subst h2; unfold treM) | refine nw_row hz (fun n => ?_) | refine force_of ?_ | refine need (wyC_len _ _) ?_ | refine st_way rfl ?_ | refine call_val hla ?_ | refine call_val tbare ?_ | refine ld1_row (n := tn) treC_s ?_ | refine call_gr hsg (.blk takeC (.blk takeC .nil)) ?_ | refine ldN_wsum ?_ | (refine call_go (hr _ _ a1 a2) (.grp takeG (.grp takeG (.blk takeC (.blk takeC .nil)))) (fun o2 b1 b2 => ?_)) | refine ift hs ?_ | refine ld1_lit ?_ | refine nw (fun n => ?_) | (refine ifs (fun h => ?_) (fun h => ?_) <;> try (exfalso; first | omega | with_reducible first | contradiction | exact h rfl)))
         all_goals (conv => whnf)
         all_goals exact fin_g (A := rgM ⟨g.a, _⟩ ++ (orcM o2 ++ [⟨tn, _⟩, ⟨a.sn, _⟩, ⟨a.mn, _⟩, ⟨a.kn, _⟩])) (.grp takeG (.grp takeG (.blk takeC (.blk takeC (.blk takeC (.blk takeC .nil)))))) ⟨o2, b1.trans a1, b2, rfl, rfl⟩
       · rw [getT_3 ep he hx (by rintro (h | h) <;> contradiction)]
         dsimp only
         refine fn_intro Tryz.func102 (by kernel_rfl) ?_
         repeat' ((conv => whnf); first
          | (refine call_g hdown (.grp takeG (.grp takeG (.one takeG))) (fun e A' hq => ?_); obtain ⟨o1, a1, a2, ln, h1, h2⟩ := hq; rw [he, if_pos rfl] at h2; subst h1; subst h2; unfold treM) | refine nw_row hz (fun n => ?_) | refine force_of ?_ | refine need (wyC_len _ _) ?_ | refine st_way rfl ?_ | refine call_val hla ?_ | refine call_val tbare ?_ | refine ld1_row (n := tn) treC_s ?_ | refine call_gr hsg (.blk takeC (.blk takeC .nil)) ?_ | refine ldN_wsum ?_ | (refine call_go (hr _ _ a1 a2) (.grp takeG (.grp takeG (.blk takeC (.blk takeC .nil)))) (fun o2 b1 b2 => ?_)) | refine iff' hs ?_ | refine ld1_lit ?_ | refine nw (fun n => ?_) | (refine ifs (fun h => ?_) (fun h => ?_) <;> try (exfalso; first | omega | with_reducible first | contradiction | exact h rfl)))
         all_goals (conv => whnf)
         all_goals exact fin_g (A := rgM ⟨g.a, _⟩ ++ (orcM o2 ++ [⟨tn, _⟩, ⟨a.sn, _⟩, ⟨a.mn, _⟩, ⟨a.kn, _⟩])) (.grp takeG (.grp takeG (.blk takeC (.blk takeC (.blk takeC (.blk takeC .nil)))))) ⟨o2, b1.trans a1, b2, rfl, rfl⟩
     · rw [getT_2 ep he hx (.inl hxe)]
       dsimp only
       obtain ⟨xe, exe⟩ : ∃ z, z = x.2.2.2 := ⟨_, rfl⟩
       rw [← exe] at hxe hr ⊢
       refine fn_intro Tryz.func102 (by kernel_rfl) ?_
       repeat' ((conv => whnf); first
        | (refine call_g hdown (.grp takeG (.grp takeG (.one takeG))) (fun e A' hq => ?_); obtain ⟨o1, a1, a2, ln, h1, h2⟩ := hq; rw [he, if_pos rfl] at h2; subst h1; subst h2; unfold treM) | refine nw_row hz (fun n => ?_) | refine force_of ?_ | refine need (wyC_len _ _) ?_ | refine st_way rfl ?_ | refine call_val hla ?_ | refine ld1_row (n := tn) treC_s ?_ | refine call_gr hsg (.blk takeC (.blk takeC .nil)) ?_ | refine ldN_wsum ?_ | (refine call_go (hr _ _ a1 a2) (.grp takeG (.grp takeG (.blk takeC (.blk takeC .nil)))) (fun o2 b1 b2 => ?_)) | refine iff' hxe ?_ | refine ld1_lit ?_ | refine nw (fun n => ?_) | (refine ifs (fun h => ?_) (fun h => ?_) <;> try (exfalso; first | omega | with_reducible first | contradiction | exact h rfl)))
       all_goals (conv => whnf)
       all_goals exact fin_g (A := rgM ⟨g.a, _⟩ ++ (orcM o2 ++ [⟨tn, _⟩, ⟨a.sn, _⟩, ⟨a.mn, _⟩, ⟨a.kn, _⟩])) (.grp takeG (.grp takeG (.blk takeC (.blk takeC (.blk takeC (.blk takeC .nil)))))) ⟨o2, b1.trans a1, b2, rfl, rfl⟩
 · rw [getT_1 ep he]
   obtain ⟨pe, epe⟩ : ∃ z, z = p.e := ⟨_, rfl⟩
   rw [← epe] at he hdown ⊢
   refine fn_intro Tryz.func102 (by kernel_rfl) ?_
   repeat' ((conv => whnf); first
    | (refine call_g hdown (.grp takeG (.grp takeG (.one takeG))) (fun e A' hq => ?_); obtain ⟨o1, a1, a2, ln, h1, h2⟩ := hq; rw [if_neg he] at h2; subst h1; subst h2) | refine nw_row hz (fun n => ?_) | refine force_of ?_ | refine need (wyC_len _ _) ?_ | refine st_way rfl ?_ | refine iff' he ?_ | refine ld1_lit ?_ | refine nw (fun n => ?_))
   all_goals (conv => whnf)
   all_goals exact fin_g (A := rgM ⟨g.a, _⟩ ++ (orcM o1 ++ treM tn ⟨a, _⟩)) (.grp takeG (.grp takeG (.one takeG))) ⟨o1, a1, a2, rfl, rfl⟩
end Tree
namespace Tree
open Go Ev Sha Aes Orc Node
open Rig (RigP Rg rgM readR writeR z64 app_of)
structure ChP where
 ts : List ByteArray
 t : TreP
 sum : Dg
noncomputable def chB (leaf : Nat) (l : Nat → ByteArray) (i : Nat) (p : ChP) : ByteArray := withS (l i) (side leaf i) p.sum
noncomputable def chS (leaf : Nat) (l : Nat → ByteArray) (i : Nat) (p : ChP) : ChP :=
 ⟨(nodeD p.ts (chB leaf l i p)).1, { p.t with known := setS p.t.known (at_ leaf (i + 1) : Nat) (chB leaf l i p), sheet := setS p.t.sheet (161 + at_ leaf (i + 1) : Nat) (chB leaf l i p) }, (nodeD p.ts (chB leaf l i p)).2⟩
noncomputable def chg (leaf : Nat) (l : Nat → ByteArray) (p : ChP) : Nat → ChP
 | 0 => p
 | i + 1 => chS leaf l i (chg leaf l p i)
theorem chg_len (leaf : Nat) (l : Nat → ByteArray) (p : ChP) : ∀ k, (chg leaf l p k).ts.length ≤ p.ts.length + k
 | 0 => Nat.le_refl _
 | k + 1 => by
   have ih := chg_len leaf l p k
   have := nodeD_len (chg leaf l p k).ts (chB leaf l k (chg leaf l p k))
   show (nodeD (chg leaf l p k).ts (chB leaf l k (chg leaf l p k))).1.length ≤ _
   omega
theorem chg_s (leaf : Nat) (l : Nat → ByteArray) (p : ChP) (k : Nat) : chg leaf l p (k + 1) = chS leaf l k (chg leaf l p k) := rfl
theorem chg_0 (leaf : Nat) (l : Nat → ByteArray) (p : ChP) : chg leaf l p 0 = p := rfl
theorem chg_d (leaf : Nat) (l : Nat → ByteArray) (p : ChP) : ∀ k, (chg leaf l p k).t.d = p.t.d ∧ (chg leaf l p k).t.root = p.t.root
 | 0 => ⟨rfl, rfl⟩
 | k + 1 => chg_d leaf l p k
attribute [local irreducible] dgV D vS mapK Instr.lookup Instr.mapUpdate Instr.makeMap Builtin.len_ treC readR readT nodeT wyC rowL pathV at_ Instr.makeSlice downT getT z64 convert Builtin.copy_ Builtin.append_ withS nodeD
theorem tchange (o : Orc) (tn : Nat) (a : TreA) (t : TreP) (leaf : Nat) (ln : Nat) (l : Nat → ByteArray) (ws sum : Dg) (hl : leaf < 64) (hon : a.on = o.on) (hb : o.ts.length ≤ 1099511620000) :
 Fnc Tryz.prog 168 [pt tn, .int .i64 leaf, .agg (wyC (sl6 ln) ws).toArray, .agg (dgV sum).toArray] (lB ln l :: (orcM o ++ treM tn ⟨a, t⟩))
  (RetO o (chg leaf l ⟨o.ts, t, sum⟩ 6).ts (fun o' => lB ln l :: (orcM o' ++ treM tn ⟨a, { (chg leaf l ⟨o.ts, t, sum⟩ 6).t with root := (chg leaf l ⟨o.ts, t, sum⟩ 6).sum }⟩)) (.tuple #[])) := by
 have hpath := path_ leaf hl
 unfold treM
 refine fn_intro Tryz.func168 (by kernel_rfl) ?_
 repeat' ((conv => whnf); first
  | refine force_of ?_ | refine nw_row (cs' := wyC (sl6 ln) ws) rfl (fun n => ?_) | refine nw_dg (fun n => ?_) | (refine call_g hpath .nil (fun e A' hq => ?_); obtain ⟨S, hS, h1, h2⟩ := hq; subst h1; subst h2))
 revert n; intro dn
 revert n; intro wn
 cases S with
 | nil => have := hS.2; simp only at this; omega
 | at_ gp cap junk =>
   have hjl : ∀ k, k < 6 → (pathV leaf 6 ++ junk)[k]? = some (.int .i64 (at_ leaf (k + 1) : Nat)) := fun k hk => by
    rw [List.getElem?_append_left (by rw [pathV_len]; exact hk), pathV_at hk]
   simp only [Own.blk]
   obtain ⟨p0, hp0⟩ : ∃ p, p = (⟨o.ts, t, sum⟩ : ChP) := ⟨_, rfl⟩
   have hpt : p0.ts = o.ts ∧ p0.t = t ∧ p0.sum = sum := by rw [hp0]; exact ⟨rfl, rfl, rfl⟩
   have hd := chg_d leaf l p0
   rw [hpt.2.1] at hd
   rw [← hp0]
   refine loop_rule [25] (fun vs M m => ∃ (k : Nat) (q : Orc), vs = [.int .i64 k] ∧ k ≤ 6 ∧ q.on = o.on ∧ q.ts = (chg leaf l p0 k).ts ∧ m = 6 - k ∧
    M = ⟨dn, .row (dgV (chg leaf l p0 k).sum) 30⟩ :: wB wn (sl6 ln) ws :: ⟨gp, .row (pathV leaf 6 ++ junk) 3⟩ :: lB ln l :: (orcM q ++ [tB tn a t.d t.root, shB a.sn a.mn, mpB a.mn (chg leaf l p0 k).t.sheet, mpB a.kn (chg leaf l p0 k).t.known])) rfl ?_ ?_
   · exact fin_g (A := ⟨dn, _⟩ :: ⟨wn, _⟩ :: ⟨gp, _⟩ :: ⟨ln, _⟩ :: (orcM o ++ [⟨tn, _⟩, ⟨a.sn, _⟩, ⟨a.mn, _⟩, ⟨a.kn, _⟩])) (.blk takeC (.blk takeC (.blk takeC (.blk takeC (.grp takeG (.blk takeC (.blk takeC (.blk takeC (.blk takeC .nil))))))))) ⟨_, 0, o, rfl, by omega, rfl, by rw [chg_0, hpt.1], rfl, by rw [chg_0, hpt.2.1, hpt.2.2]⟩
   rintro vs junk2 M' m ⟨k, q, rfl, hk, hq1, hq2, rfl, rfl⟩
   have hlen := chg_len leaf l p0 k
   have hnext := chg_s leaf l p0 k
   have hdk := hd 6
   rw [hpt.1] at hlen
   by_cases hk6 : k < 6
   · obtain ⟨p, ep⟩ : ∃ p, p = chg leaf l p0 k := ⟨_, rfl⟩
     rw [← ep] at hq2 hlen hnext ⊢
     obtain ⟨s, es⟩ : ∃ s, s = withS (l k) (side leaf k) p.sum := ⟨_, rfl⟩
     have hw := with_ (l k) (side leaf k) p.sum (side_le _ _)
     rw [← es] at hw
     have hnode := node_ q s (by rw [hq2]; omega)
     rw [hq2, hq1] at hnode
     have hside := side_ leaf k hl hk6
     have hna := nodeAt_ok (at_node hl hk6)
     have hset := sset a.sn a.mn p.t.sheet (161 + at_ leaf (k + 1) : Nat) s
     have hc : chS leaf l k p = ⟨(nodeD p.ts s).1, { p.t with known := setS p.t.known (at_ leaf (k + 1) : Nat) s, sheet := setS p.t.sheet (161 + at_ leaf (k + 1) : Nat) s }, (nodeD p.ts s).2⟩ := by
      unfold chS chB; rw [← es]
     repeat' ((conv => whnf); first
      | refine nv_eq (a := k) (by omega) ?_ | refine ld1_row (n := gp) (hjl k hk6) ?_ | refine call_val hside ?_ | refine call_val hw ?_ | refine call_val hna ?_ | refine draw_any 6 [(0, true), (2, true), (5, true), (1, true), (3, true), (4, true), (6, false), (7, false), (8, true), (9, true), (10, true), (11, true), (12, true)] [⟨wn, _⟩, ⟨ln, _⟩] rfl (by kernel_rfl) (kept_wg (wn := wn) (gp := ln) ?_) | refine kept_wg (wn := wn) (gp := ln) ?_ | refine fld1_row (n := wn) wyC_0 ?_ | refine fld1_row (n := ln) (rowL_at hk6) ?_ | refine ldN_dg (n := dn) rfl ?_ | refine ld1_row (n := tn) treC_k ?_ | refine ld1_row (n := tn) treC_s ?_ | refine ld1_row (n := tn) treC_1 ?_ | (refine map_put (keyI rfl) rfl ?_; rw [setM_vS]) | refine call_gr hset (.blk takeC (.blk takeC .nil)) ?_ | (rw [hon]; refine call_go hnode (.one takeG) (fun o2 g1 g2 => ?_)) | refine force_of ?_ | refine need (dgV_len _) ?_ | refine st_dg (n := dn) ?_ | refine need (by first | rfl | omega) ?_ | (refine wr (fun z hz => ?_); (try rw [Int.tdiv_eq_ediv_of_nonneg (by omega)] at hz); rw [w64 (by omega) (by omega)] at hz; subst hz) | (refine ifs (fun h => ?_) (fun h => ?_) <;> try (exfalso; first | omega | with_reducible first | contradiction | exact h rfl)))
     all_goals (conv => whnf)
     all_goals exact ⟨rfl, fin_g (A := ⟨dn, _⟩ :: ⟨wn, _⟩ :: ⟨gp, _⟩ :: ⟨ln, _⟩ :: (orcM o2 ++ [⟨tn, _⟩, ⟨a.sn, _⟩, ⟨a.mn, _⟩, ⟨a.kn, _⟩])) (.blk takeC (.blk takeC (.blk takeC (.blk takeC (.grp takeG (.blk takeC (.blk takeC (.blk takeC (.blk takeC .nil))))))))) ⟨6 - (k + 1), by omega, k + 1, o2, rfl, by omega, by rw [g1, hq1], by rw [g2, hnext, hc], rfl, by rw [hnext, hc]; rfl⟩⟩
   · obtain rfl : k = 6 := by omega
     repeat' ((conv => whnf); first
      | refine ldN_dg (n := dn) rfl ?_ | refine force_of ?_ | refine need (dgV_len _) ?_ | refine st_root (n := tn) ?_ | (refine ifs (fun h => ?_) (fun h => ?_) <;> try (exfalso; first | omega | with_reducible first | contradiction | exact h rfl)))
     all_goals (conv => whnf)
     all_goals exact fin_g (A := ⟨ln, _⟩ :: (orcM q ++ [⟨tn, _⟩, ⟨a.sn, _⟩, ⟨a.mn, _⟩, ⟨a.kn, _⟩])) (.blk takeC (.grp takeG (.blk takeC (.blk takeC (.blk takeC (.blk takeC .nil)))))) ⟨q, hq1, hq2, by dsimp only; rw [hdk.1], rfl⟩
structure PutR where
 r : RigP
 ts : List ByteArray
 t : TreP
 e : Int
noncomputable def putC (p : DnP) (leaf : Nat) (block : ByteArray) : ChP := chg leaf p.l ⟨(leafD p.ts block).1, p.t, (leafD p.ts block).2⟩ 6
noncomputable def putT (r : RigP) (ts : List ByteArray) (t : TreP) (leaf : Nat) (block : ByteArray) : PutR :=
 if (downT r ts t leaf).e ≠ 0 then ⟨(downT r ts t leaf).r, (downT r ts t leaf).ts, (downT r ts t leaf).t, (downT r ts t leaf).e⟩
 else ⟨(downT r ts t leaf).r, (putC (downT r ts t leaf) leaf block).ts, { (putC (downT r ts t leaf) leaf block).t with root := (putC (downT r ts t leaf) leaf block).sum, sheet := setS (putC (downT r ts t leaf) leaf block).t.sheet (224 + leaf : Nat) block }, 0⟩
theorem putT_1 {r : RigP} {ts : List ByteArray} {t : TreP} {leaf : Nat} {block : ByteArray} {p : DnP} (hp : p = downT r ts t leaf) (h : p.e ≠ 0) : putT r ts t leaf block = ⟨p.r, p.ts, p.t, p.e⟩ := by
 subst hp; unfold putT; rw [if_pos h]
theorem putT_2 {r : RigP} {ts : List ByteArray} {t : TreP} {leaf : Nat} {block : ByteArray} {p : DnP} (hp : p = downT r ts t leaf) (h : p.e = 0) {c : ChP} (hc : c = putC p leaf block) : putT r ts t leaf block = ⟨p.r, c.ts, { c.t with root := c.sum, sheet := setS c.t.sheet (224 + leaf : Nat) block }, 0⟩ := by
 subst hp; subst hc; unfold putT; rw [if_neg (by simp [h])]
theorem tput_no (tn : Nat) (leaf : Int) (block : ByteArray) (h : ¬ (0 ≤ leaf ∧ leaf < 64)) : Fnc Tryz.prog 100 [pt tn, .int .i64 leaf, .string block] [] (Ret (.int .i64 3) []) := by
 have hla := leafAt_no h
 refine fn_intro Tryz.func100 (by kernel_rfl) ?_
 repeat' ((conv => whnf); first
  | refine call_val hla ?_ | (refine ifs (fun h => ?_) (fun h => ?_) <;> try (exfalso; first | omega | with_reducible first | contradiction | exact h rfl)))
 all_goals (conv => whnf)
 all_goals exact fin_nil ⟨rfl, rfl⟩
theorem tput_form (tn : Nat) (leaf : Nat) (block : ByteArray) (h : leaf < 64) (hs : ¬ block.size = 64) : Fnc Tryz.prog 100 [pt tn, .int .i64 leaf, .string block] [] (Ret (.int .i64 6) []) := by
 have hla := leafAt_ok h
 refine fn_intro Tryz.func100 (by kernel_rfl) ?_
 repeat' ((conv => whnf); first
  | refine call_val hla ?_ | (refine ifs (fun h => ?_) (fun h => ?_) <;> try (exfalso; first | omega | with_reducible first | contradiction | exact h rfl)))
 all_goals (conv => whnf)
 all_goals exact fin_nil ⟨rfl, rfl⟩
attribute [local irreducible] putC putT
theorem tput (g : Rg) (o : Orc) (tn : Nat) (a : TreA) (t : TreP) (leaf : Nat) (block : ByteArray) (hl : leaf < 64) (hs : block.size = 64) (hrn : a.rn = g.a.rn) (hon : a.on = o.on) (hb : o.ts.length ≤ 1099511610000) :
 Fnc Tryz.prog 100 [pt tn, .int .i64 leaf, .string block] (rgM g ++ (orcM o ++ treM tn ⟨a, t⟩))
  (RetO o (putT g.r o.ts t leaf block).ts (fun o' => rgM ⟨g.a, (putT g.r o.ts t leaf block).r⟩ ++ (orcM o' ++ treM tn ⟨a, (putT g.r o.ts t leaf block).t⟩)) (.int .i64 (putT g.r o.ts t leaf block).e)) := by
 have hz := wyC_z
 have hdown := tdown g o tn a t leaf hl hrn hon (by omega)
 have hla := leafAt_ok hl
 have hlen := dn_len leaf (dn0 g.r o.ts t) 6
 obtain ⟨p, ep⟩ : ∃ p, p = downT g.r o.ts t leaf := ⟨_, rfl⟩
 rw [← ep] at hdown
 have hlen : p.ts.length ≤ o.ts.length + 6 := by rw [ep]; unfold downT; exact hlen
 by_cases he : p.e = 0
 · have hleaf : ∀ o1 : Orc, o1.on = o.on → o1.ts = p.ts → Fnc Tryz.prog 167 [pt a.on, .string block] (orcM o1) (RetO o1 (leafD p.ts block).1 orcM (.tuple #[.agg (dgV (leafD p.ts block).2).toArray, .int .i64 (sizeE block)])) := fun o1 h1 h2 => by
    have := leaf_ o1 block (by rw [h2]; omega)
    rw [h1, h2, ← hon] at this
    exact this
   obtain ⟨c, ec⟩ : ∃ c, c = putC p leaf block := ⟨_, rfl⟩
   have hch : ∀ (o2 : Orc) (ln : Nat), o2.on = o.on → o2.ts = (leafD p.ts block).1 → Fnc Tryz.prog 168 [pt tn, .int .i64 leaf, .agg (wyC (sl6 ln) p.sum).toArray, .agg (dgV (leafD p.ts block).2).toArray] (lB ln p.l :: (orcM o2 ++ treM tn ⟨a, p.t⟩))
    (RetO o2 c.ts (fun o' => lB ln p.l :: (orcM o' ++ treM tn ⟨a, { c.t with root := c.sum }⟩)) (.tuple #[])) := fun o2 ln h1 h2 => by
    have hlf := leafD_len p.ts block
    have := tchange o2 tn a p.t leaf ln p.l p.sum (leafD p.ts block).2 hl (hon.trans h1.symm) (by rw [h2]; omega)
    rw [h2] at this
    rw [ec]; unfold putC
    exact this
   rw [putT_2 ep he ec]
   have hset := sset a.sn a.mn c.t.sheet (224 + leaf : Nat) block
   refine fn_intro Tryz.func100 (by kernel_rfl) ?_
   repeat' ((conv => whnf); first
    | refine call_val hla ?_ | (refine call_g hdown (.grp takeG (.grp takeG (.one takeG))) (fun e A' hq => ?_); obtain ⟨o1, a1, a2, ln, h1, h2⟩ := hq; rw [he, if_pos rfl] at h2; subst h1; subst h2) | refine nw_row hz (fun n => ?_) | refine nw_z (fun n => ?_) | refine force_of ?_ | refine need (wyC_len _ _) ?_ | refine need (dgV_len _) ?_ | refine st_way rfl ?_ | refine st_dg ?_ | refine ldN_way ?_ | refine ldN_dg rfl ?_ | refine ld1_row (n := tn) treC_1 ?_ | refine ld1_row (n := tn) treC_s ?_ | (refine call_go (hleaf _ a1 a2) (.one takeG) (fun o2 b1 b2 => ?_)) | (refine call_go (hch _ _ (b1.trans a1) b2) (.blk takeC (.grp takeG (.one takeG))) (fun o3 c1 c2 => ?_); unfold treM) | refine call_gr hset (.blk takeC (.blk takeC .nil)) ?_ | (refine ifs (fun h => ?_) (fun h => ?_) <;> try (exfalso; first | omega | with_reducible first | contradiction | exact h rfl)))
   all_goals (conv => whnf)
   all_goals exact fin_g (A := rgM ⟨g.a, _⟩ ++ (orcM o3 ++ [⟨tn, _⟩, ⟨a.sn, _⟩, ⟨a.mn, _⟩, ⟨a.kn, _⟩])) (.grp takeG (.grp takeG (.blk takeC (.blk takeC (.blk takeC (.blk takeC .nil)))))) ⟨o3, c1.trans (b1.trans a1), c2, rfl, rfl⟩
 · rw [putT_1 ep he]
   obtain ⟨pe, epe⟩ : ∃ z, z = p.e := ⟨_, rfl⟩
   rw [← epe] at he hdown ⊢
   refine fn_intro Tryz.func100 (by kernel_rfl) ?_
   repeat' ((conv => whnf); first
    | refine call_val hla ?_ | (refine call_g hdown (.grp takeG (.grp takeG (.one takeG))) (fun e A' hq => ?_); obtain ⟨o1, a1, a2, ln, h1, h2⟩ := hq; rw [if_neg he] at h2; subst h1; subst h2) | refine nw_row hz (fun n => ?_) | refine force_of ?_ | refine need (wyC_len _ _) ?_ | refine st_way rfl ?_ | refine iff' he ?_ | (refine ifs (fun h => ?_) (fun h => ?_) <;> try (exfalso; first | omega | with_reducible first | contradiction | exact h rfl)))
   all_goals (conv => whnf)
   all_goals exact fin_g (A := rgM ⟨g.a, _⟩ ++ (orcM o1 ++ treM tn ⟨a, _⟩)) (.grp takeG (.grp takeG (.one takeG))) ⟨o1, a1, a2, rfl, rfl⟩
theorem tclear (g : Rg) (o : Orc) (tn : Nat) (a : TreA) (t : TreP) (leaf : Nat) (hl : leaf < 64) (hrn : a.rn = g.a.rn) (hon : a.on = o.on) (hb : o.ts.length ≤ 1099511610000) :
 Fnc Tryz.prog 175 [pt tn, .int .i64 leaf] (rgM g ++ (orcM o ++ treM tn ⟨a, t⟩))
  (RetO o (putT g.r o.ts t leaf z64).ts (fun o' => rgM ⟨g.a, (putT g.r o.ts t leaf z64).r⟩ ++ (orcM o' ++ treM tn ⟨a, (putT g.r o.ts t leaf z64).t⟩)) (.int .i64 (putT g.r o.ts t leaf z64).e)) := by
 have hp := tput g o tn a t leaf z64 hl z64_size hrn hon hb
 refine fn_intro Tryz.func175 (by kernel_rfl) ?_
 repeat' ((conv => whnf); first
  | refine call_val tbare ?_ | (refine call_go hp (.grp takeG (.grp takeG (.one takeG))) (fun o3 c1 c2 => ?_)))
 all_goals (conv => whnf)
 all_goals exact fin_g (A := rgM ⟨g.a, _⟩ ++ (orcM o3 ++ treM tn ⟨a, _⟩)) (.grp takeG (.grp takeG (.one takeG))) ⟨o3, c1, c2, rfl, rfl⟩
theorem tclear_no (tn : Nat) (leaf : Int) (h : ¬ (0 ≤ leaf ∧ leaf < 64)) : Fnc Tryz.prog 175 [pt tn, .int .i64 leaf] [] (Ret (.int .i64 3) []) := by
 refine fn_intro Tryz.func175 (by kernel_rfl) ?_
 repeat' ((conv => whnf); first
  | refine call_val tbare ?_ | refine call_val (tput_no tn leaf z64 h) ?_)
 all_goals (conv => whnf)
 all_goals exact fin_nil ⟨rfl, rfl⟩
theorem tsheet (tn : Nat) (x : Tre) : Fnc Tryz.prog 119 [pt tn] (treM tn x) (Ret (pt x.a.sn) (treM tn x)) := by
 refine fn_intro Tryz.func119 (by kernel_rfl) ?_
 repeat' ((conv => whnf); first
  | refine ld1_row (n := tn) treC_s ?_)
 all_goals (conv => whnf)
 all_goals exact fin_all ⟨rfl, rfl⟩
end Tree
end Go.Proofs.YtkjamonkohpcnaaGreat
