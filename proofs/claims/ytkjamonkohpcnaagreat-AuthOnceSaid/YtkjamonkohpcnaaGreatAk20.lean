/- Texts of this proof, merged. -/
import Derived.Test.YtkjamonkohpcnaaGreatAk11
import Derived.Test.YtkjamonkohpcnaaGreatAk13
import Derived.Test.YtkjamonkohpcnaaGreatAk19
import Derived.Test.YtkjamonkohpcnaaGreatAk18
set_option linter.unusedVariables false
set_option linter.unusedSimpArgs false
set_option linter.unusedSectionVars false
set_option maxRecDepth 100000
set_option maxHeartbeats 16000000
namespace Go.Proofs.YtkjamonkohpcnaaGreat
namespace Tree
open Go Ev Sha Aes Orc Node Jrn
open Rig (RigP Rg rgM readR writeR z64 app_of)
theorem getS_set (k : Int) (s : ByteArray) : ∀ (l : List (Int × ByteArray)) (j : Int), getS (setS l k s) j = if j = k then some s else getS l j
 | [], j => by simp only [setS, getS]
 | (a, u) :: t, j => by
   unfold setS
   by_cases h : k = a
   · rw [if_pos h]; subst h
     simp only [getS]
     by_cases hj : j = k
     · rw [if_pos hj, if_pos hj]
     · rw [if_neg hj, if_neg hj, if_neg hj]
   · rw [if_neg h]
     simp only [getS]
     rw [getS_set k s t j]
     by_cases hj : j = a
     · rw [if_pos hj, if_pos hj, if_neg (by omega)]
     · rw [if_neg hj, if_neg hj]
theorem setS_len (k : Int) (s : ByteArray) : ∀ (l : List (Int × ByteArray)), (setS l k s).length ≤ l.length + 1
 | [] => by simp [setS]
 | (a, u) :: t => by
   unfold setS
   split
   · simp
   · have := setS_len k s t
     simp only [List.length_cons]; omega
noncomputable def dg (F f : Nat → ByteArray) (m : Nat) : Dg := if m < 63 then D (p1 (F m)) else D (p0 (f (m - 63)))
structure TI (r : RigP) (t : TreP) (F f : Nat → ByteArray) : Prop where
 d : t.d = 0 ∨ t.d = 1
 sz : ∀ n, n < 63 → (F n).size = 64
 fsz : ∀ n, n < 64 → (f n).size = 64
 root : t.root = D (p1 (F 0))
 kid : ∀ n s, n < 63 → s ≤ 1 → dl (splitD (F n) s) = dl (dg F f (2 * n + 1 + s))
 known : ∀ (n : Nat) s, n < 63 → getS t.known n = some s → s = F n
 dev : ∀ (n : Nat), n < 63 → getS t.known n = none → ((r.dev t.d) (161 + n)).now = F n
 sheet : ∀ (n : Nat) s, n < 64 → getS t.sheet (224 + n : Nat) = some s → s = f n
 leaf : ∀ (n : Nat), n < 64 → getS t.sheet (224 + n : Nat) = none → ((r.dev t.d) (224 + n)).now = f n
def Same (r r' : RigP) : Prop := r'.d0 = r.d0 ∧ r'.d1 = r.d1
theorem Same.dev {r r' : RigP} (h : Same r r') (d : Int) : r'.dev d = r.dev d := by unfold Rig.RigP.dev; rw [h.1, h.2]
theorem Same.trans {r r' r'' : RigP} (h : Same r r') (h' : Same r' r'') : Same r r'' := ⟨h'.1.trans h.1, h'.2.trans h.2⟩
theorem Same.refl (r : RigP) : Same r r := ⟨rfl, rfl⟩
theorem TI.same {r r' : RigP} {t : TreP} {F f : Nat → ByteArray} (h : TI r t F f) (hs : Same r r') : TI r' t F f :=
 ⟨h.d, h.sz, h.fsz, h.root, h.kid, h.known, fun n hn hk => by rw [hs.dev]; exact h.dev n hn hk, h.sheet, fun n hn hk => by rw [hs.dev]; exact h.leaf n hn hk⟩
theorem fine_read {r : RigP} (h : Fine r) {d : Int} {i : Nat} (hd : d = 0 ∨ d = 1) (hi : i < 288) : readR r d i = (ticked r, ((r.dev d) i).now, 0) := by
 unfold readR
 rw [mayE_ok hd (by omega) (by omega), if_neg (by simp), h.tick]
 rfl
theorem same_tick (r : RigP) : Same r (ticked r) := ⟨rfl, rfl⟩
theorem readT_ok {sf : List ByteArray → ByteArray → List ByteArray × Dg} {r : RigP} (h : Fine r) {d : Int} {i : Nat} (hd : d = 0 ∨ d = 1) (hi : i < 288) (ts : List ByteArray) {want : Dg} (hw : dl (sf ts ((r.dev d) i).now).2 = dl want) :
 readT sf r ts d i want = (ticked r, (sf ts ((r.dev d) i).now).1, ((r.dev d) i).now, 0) := by
 unfold readT
 rw [fine_read h hd hi]
 simp only
 rw [if_neg (by simp), if_pos hw]
theorem nodeT_ok {r : RigP} {ts : List ByteArray} {t : TreP} {F f : Nat → ByteArray} (h : TI r t F f) (hf : Fine r) {n : Nat} (hn : n < 63) {want : Dg} (hw : dl want = dl (D (p1 (F n)))) :
 (nodeT r ts t n want).e = 0 ∧ (nodeT r ts t n want).s = F n ∧ Fine (nodeT r ts t n want).r ∧ Same r (nodeT r ts t n want).r ∧ TI (nodeT r ts t n want).r (nodeT r ts t n want).t F f ∧ (nodeT r ts t n want).t.sheet = t.sheet ∧ (nodeT r ts t n want).ts.length ≤ ts.length + 1 ∧ (nodeT r ts t n want).t.d = t.d := by
 unfold nodeT
 cases hk : getS t.known n with
 | some s => exact ⟨rfl, h.known n s hn hk, hf, Same.refl r, h, rfl, Nat.le_succ _, rfl⟩
 | none =>
   have hd := h.dev n hn hk
   have hz := h.sz n hn
   have hr := readT_ok (sf := nodeD) hf h.d (i := 161 + n) (by omega) ts (want := want) (by rw [hd, nodeD_ok hz]; exact hw.symm)
   simp only
   rw [hr, hd]
   simp only [if_true]
   refine ⟨trivial, trivial, hf.ticked, same_tick r, ?_, trivial, ?_, trivial⟩
   · have h' := h.same (same_tick r)
     refine ⟨h'.d, h'.sz, h'.fsz, h'.root, h'.kid, fun m s hm hg => ?_, fun m hm hg => ?_, h'.sheet, h'.leaf⟩
     · simp only at hg
       rw [getS_set] at hg
       by_cases e : (m : Int) = n
       · rw [if_pos e] at hg
         have : m = n := by omega
         subst this
         exact (Option.some.inj hg).symm
       · rw [if_neg e] at hg; exact h.known m s hm hg
     · simp only at hg
       rw [getS_set] at hg
       by_cases e : (m : Int) = n
       · rw [if_pos e] at hg; cases hg
       · rw [if_neg e] at hg; exact h'.dev m hm hg
   · rw [nodeD_ok hz]; exact addT_len _ _
theorem at_kid {l i : Nat} (hl : l < 64) (hi : i < 6) : at_ l i = 2 * at_ l (i + 1) + 1 + side l i := by
 have h1 := at_s l i
 have h2 := at_pos hl hi
 unfold side
 omega
structure DnI (r0 : RigP) (ts0 : List ByteArray) (t0 : TreP) (F f : Nat → ByteArray) (leaf k : Nat) (p : DnP) : Prop where
 e : p.e = 0
 fine : Fine p.r
 same : Same r0 p.r
 ti : TI p.r p.t F f
 sheet : p.t.sheet = t0.sheet
 d : p.t.d = t0.d
 len : p.ts.length ≤ ts0.length + k
 sum : dl p.sum = dl (dg F f (at_ leaf (6 - k)))
 l : ∀ i, 6 - k ≤ i → i < 6 → p.l i = F (at_ leaf (i + 1))
theorem dn_ok {r : RigP} {ts : List ByteArray} {t : TreP} {F f : Nat → ByteArray} (h : TI r t F f) (hf : Fine r) {leaf : Nat} (hl : leaf < 64) : ∀ k, k ≤ 6 → DnI r ts t F f leaf k (dn leaf (dn0 r ts t) k)
 | 0, _ => by
   refine ⟨rfl, hf, Same.refl r, h, rfl, rfl, Nat.le_refl _, ?_, fun i h1 h2 => by omega⟩
   show dl t.root = dl (dg F f (at_ leaf 6))
   rw [at_6 hl, h.root]; rfl
 | k + 1, hk => by
   have ih := dn_ok (ts := ts) h hf hl k (by omega)
   rw [dn_s ih.e]
   obtain ⟨p, ep⟩ : ∃ p, p = dn leaf (dn0 r ts t) k := ⟨_, rfl⟩
   rw [← ep] at ih ⊢
   clear ep
   have e6 : 6 - k = 5 - k + 1 := by omega
   have hn : at_ leaf (5 - k + 1) < 63 := at_node hl (by omega)
   have hs := ih.sum
   rw [e6] at hs
   have hn2 := nodeT_ok (ts := p.ts) ih.ti ih.fine hn (want := p.sum) (by rw [hs]; unfold dg; rw [if_pos hn])
   obtain ⟨n1, n2, n3, n4, n5, n6, n7, n8⟩ := hn2
   unfold dnS
   refine ⟨n1, n3, ih.same.trans n4, n5, n6.trans ih.sheet, n8.trans ih.d, ?_, ?_, fun i h1 h2 => ?_⟩
   · have := ih.len
     simp only; omega
   · simp only
     rw [if_pos n1, n2, ih.ti.kid _ _ hn (side_le _ _), show 6 - (k + 1) = 5 - k by omega, ← at_kid hl (by omega)]
   · simp only
     unfold updB
     by_cases e : i = 5 - k
     · rw [if_pos e, n2, e]
     · rw [if_neg e]; exact ih.l i (by omega) h2
theorem down_ok {r : RigP} {ts : List ByteArray} {t : TreP} {F f : Nat → ByteArray} (h : TI r t F f) (hf : Fine r) {leaf : Nat} (hl : leaf < 64) : DnI r ts t F f leaf 6 (downT r ts t leaf) := dn_ok h hf hl 6 (Nat.le_refl _)
structure GetI (r : RigP) (ts : List ByteArray) (t : TreP) (F f : Nat → ByteArray) (leaf : Nat) (q : GetR) : Prop where
 e : q.e = 0
 fine : Fine q.r
 same : Same r q.r
 ti : TI q.r q.t F f
 sheet : q.t.sheet = t.sheet
 len : q.ts.length ≤ ts.length + 7
 is : q.is = true ↔ f leaf ≠ z64
 s : q.is = true → q.s = f leaf
theorem getT_ok {r : RigP} {ts : List ByteArray} {t : TreP} {F f : Nat → ByteArray} (h : TI r t F f) (hf : Fine r) {leaf : Nat} (hl : leaf < 64) : GetI r ts t F f leaf (getT r ts t leaf) := by
 have hd := down_ok (ts := ts) h hf hl
 obtain ⟨p, ep⟩ : ∃ p, p = downT r ts t leaf := ⟨_, rfl⟩
 rw [← ep] at hd
 have hx : ∃ x : RigP × List ByteArray × ByteArray × Int, getX p leaf = x ∧ x.2.2.2 = 0 ∧ x.2.2.1 = f leaf ∧ Fine x.1 ∧ Same p.r x.1 ∧ x.2.1.length ≤ p.ts.length + 1 := by
  refine ⟨_, rfl, ?_⟩
  unfold getX
  cases hg : getS p.t.sheet (224 + leaf : Nat) with
  | some s => exact ⟨rfl, hd.ti.sheet leaf s hl hg, hd.fine, Same.refl _, Nat.le_succ _⟩
  | none =>
    have hv := hd.ti.leaf leaf hl hg
    have hz := hd.ti.fsz leaf hl
    have hs := hd.sum
    have hr := readT_ok (sf := leafD) hd.fine hd.ti.d (i := 224 + leaf) (by omega) p.ts (want := p.sum) (by
     rw [hv, leafD_ok hz, hs]
     show dl (D (p0 (f leaf))) = dl (dg F f (at_ leaf 0))
     rw [at_0]
     unfold dg
     rw [if_neg (by omega), show leaf + 63 - 63 = leaf by omega])
    simp only
    rw [hr, hv]
    exact ⟨rfl, rfl, hd.fine.ticked, same_tick _, by rw [leafD_ok hz]; exact addT_len _ _⟩
 obtain ⟨x, hx, x1, x2, x3, x4, x5⟩ := hx
 have hlen := hd.len
 by_cases hz : f leaf = z64
 · rw [getT_2 ep hd.e hx (.inr (by rw [x2, hz]))]
   exact ⟨x1, x3, hd.same.trans x4, hd.ti.same x4, hd.sheet, by show x.2.1.length ≤ _; omega, ⟨fun h => (by cases h), fun h => absurd hz h⟩, fun h => (by cases h)⟩
 · rw [getT_3 ep hd.e hx (by rintro (h1 | h1); exact h1 x1; exact hz (x2.symm.trans h1))]
   exact ⟨rfl, x3, hd.same.trans x4, hd.ti.same x4, hd.sheet, by show x.2.1.length ≤ _; omega, ⟨fun _ => hz, fun _ => rfl⟩, fun _ => x2⟩
theorem getT_d (r : RigP) (ts : List ByteArray) (t : TreP) (leaf : Nat) : (getT r ts t leaf).t.d = (downT r ts t leaf).t.d := by
 unfold getT
 split
 · rfl
 · split <;> rfl
theorem putT_d (r : RigP) (ts : List ByteArray) (t : TreP) (leaf : Nat) (b : ByteArray) : (putT r ts t leaf b).t.d = (downT r ts t leaf).t.d := by
 unfold putT
 split
 · rfl
 · simp only
   unfold putC
   rw [(chg_d _ _ _ _).1]
theorem str_dl_size (d : Dg) : (str (dl d)).size = 32 := by rw [Ev.str_size, dl_len]
theorem withS_size {s : ByteArray} (h : s.size = 64) (side : Nat) (d : Dg) : (withS s side d).size = 64 := by
 unfold withS
 rw [if_pos h]
 split
 · rw [ByteArray.size_append, str_dl_size, ByteArray.size_extract]; omega
 · rw [ByteArray.size_append, str_dl_size, ByteArray.size_extract]; omega
theorem ext_l (s : ByteArray) (i j : Nat) : (s.extract i j).data.toList = (s.data.toList.take j).drop i := by
 conv => lhs; rw [show s = str s.data.toList from (str_eta s).symm]
 rw [Geom.ext_str]; rfl
theorem withS_0 {s : ByteArray} (h : s.size = 64) (d : Dg) : (withS s 0 d).data.toList = dl d ++ s.data.toList.drop 32 := by
 have hl : s.data.toList.length = 64 := h
 unfold withS
 rw [if_pos h, if_pos rfl, ByteArray.data_append, Array.toList_append, ext_l, List.take_of_length_le (by omega)]
 rfl
theorem withS_1 {s : ByteArray} (h : s.size = 64) (d : Dg) : (withS s 1 d).data.toList = s.data.toList.take 32 ++ dl d := by
 unfold withS
 rw [if_pos h, if_neg (by omega), ByteArray.data_append, Array.toList_append, ext_l, List.drop_zero]
 rfl
theorem dl_eq {a b : Dg} (h : ∀ j, j < 32 → a j = b j) : dl a = dl b := by
 unfold dl
 apply List.map_congr_left
 intro j hj
 exact h j (List.mem_range.1 hj)
theorem dl_get {a : Dg} {j : Nat} (h : j < 32) : (dl a)[j]? = some (a j) := by unfold dl; rw [List.getElem?_map, List.getElem?_range h]; rfl
theorem split_with {s : ByteArray} (h : s.size = 64) (d : Dg) {side : Nat} (hs : side ≤ 1) : dl (splitD (withS s side d) side) = dl d := by
 have hl : s.data.toList.length = 64 := h
 have hw := withS_size h side d
 apply dl_eq
 intro j hj
 unfold splitD
 rw [if_pos hw]
 unfold halfD
 have hc : side = 0 ∨ side = 1 := by omega
 rcases hc with rfl | rfl
 · rw [withS_0 h, List.getElem?_append_left (by rw [dl_len]; omega), show 32 * 0 + j = j by omega, dl_get hj]; rfl
 · rw [withS_1 h, List.getElem?_append_right (by rw [List.length_take]; omega), List.length_take, show 32 * 1 + j - min 32 s.data.toList.length = j by omega, dl_get hj]; rfl
theorem split_other {s : ByteArray} (h : s.size = 64) (d : Dg) {side o : Nat} (hs : side ≤ 1) (ho : o ≤ 1) (hne : o ≠ side) : dl (splitD (withS s side d) o) = dl (splitD s o) := by
 have hl : s.data.toList.length = 64 := h
 have hw := withS_size h side d
 apply dl_eq
 intro j hj
 unfold splitD
 rw [if_pos hw, if_pos h]
 unfold halfD
 have hc : side = 0 ∨ side = 1 := by omega
 rcases hc with rfl | rfl
 · have : o = 1 := by omega
   subst this
   rw [withS_0 h, List.getElem?_append_right (by rw [dl_len]; omega), dl_len, List.getElem?_drop]
   congr 2; omega
 · have : o = 0 := by omega
   subst this
   rw [withS_1 h, List.getElem?_append_left (by rw [List.length_take]; omega), List.getElem?_take, if_pos (by omega)]
structure ChI (t0 : TreP) (p0 : ChP) (leaf : Nat) (l : Nat → ByteArray) (k : Nat) : Prop where
 on : ∀ i, i < k → getS (chg leaf l p0 k).t.known (at_ leaf (i + 1) : Nat) = some (chB leaf l i (chg leaf l p0 i))
 off : ∀ n : Int, (∀ i, i < k → n ≠ (at_ leaf (i + 1) : Nat)) → getS (chg leaf l p0 k).t.known n = getS p0.t.known n
 sh : ∀ n : Nat, 224 ≤ n → getS (chg leaf l p0 k).t.sheet (n : Int) = getS p0.t.sheet (n : Int)
 len : (chg leaf l p0 k).t.sheet.length ≤ p0.t.sheet.length + k
theorem ch_ok {leaf : Nat} (hl : leaf < 64) (t0 : TreP) (p0 : ChP) (l : Nat → ByteArray) : ∀ k, k ≤ 6 → ChI t0 p0 leaf l k
 | 0, _ => ⟨fun i h => by omega, fun n _ => rfl, fun n _ => rfl, Nat.le_refl _⟩
 | k + 1, hk => by
   have ih := ch_ok hl t0 p0 l k (by omega)
   refine ⟨fun i hi => ?_, fun n hn => ?_, fun n hn => ?_, ?_⟩
   · rw [chg_s]; unfold chS
     simp only
     rw [getS_set]
     by_cases e : i = k
     · subst e; rw [if_pos rfl]
     · have hne : at_ leaf (i + 1) ≠ at_ leaf (k + 1) := fun h => e (at_inj hl (by omega) (by omega) h)
       rw [if_neg (by omega)]
       exact ih.on i (by omega)
   · rw [chg_s]; unfold chS
     simp only
     rw [getS_set, if_neg (hn k (by omega))]
     exact ih.off n fun i hi => hn i (by omega)
   · rw [chg_s]; unfold chS
     simp only
     have := at_node hl (show k < 6 by omega)
     rw [getS_set, if_neg (by omega)]
     exact ih.sh n hn
   · rw [chg_s]; unfold chS
     simp only
     have := setS_len (161 + at_ leaf (k + 1) : Nat) (chB leaf l k (chg leaf l p0 k)) (chg leaf l p0 k).t.sheet
     have := ih.len
     omega
open Classical in
noncomputable def newF (F : Nat → ByteArray) (leaf : Nat) (l : Nat → ByteArray) (p0 : ChP) (n : Nat) : ByteArray :=
 if h : ∃ i, i < 6 ∧ at_ leaf (i + 1) = n then chB leaf l h.choose (chg leaf l p0 h.choose) else F n
theorem newF_on {F : Nat → ByteArray} {leaf : Nat} (hl : leaf < 64) (l : Nat → ByteArray) (p0 : ChP) {i : Nat} (hi : i < 6) : newF F leaf l p0 (at_ leaf (i + 1)) = chB leaf l i (chg leaf l p0 i) := by
 have h : ∃ j, j < 6 ∧ at_ leaf (j + 1) = at_ leaf (i + 1) := ⟨i, hi, rfl⟩
 unfold newF
 rw [dif_pos h]
 have hs := h.choose_spec
 have e : h.choose = i := by
  rcases Nat.le_total h.choose i with h1 | h1
  · exact at_inj hl h1 hi hs.2
  · exact (at_inj hl h1 hs.1 hs.2.symm).symm
 rw [e]
theorem newF_off {F : Nat → ByteArray} {leaf : Nat} (l : Nat → ByteArray) (p0 : ChP) {n : Nat} (h : ¬ ∃ i, i < 6 ∧ at_ leaf (i + 1) = n) : newF F leaf l p0 n = F n := by
 unfold newF; rw [dif_neg h]
theorem mem_setS {k : Int} {s : ByteArray} : ∀ {l : List (Int × ByteArray)} {p : Int × ByteArray}, p ∈ setS l k s → p = (k, s) ∨ p ∈ l
 | [], p, h => by
   unfold setS at h
   exact .inl (List.mem_singleton.1 h)
 | (a, u) :: t, p, h => by
   unfold setS at h
   split at h
   · rename_i e
     rcases List.mem_cons.1 h with h | h
     · exact .inl (by rw [h, e])
     · exact .inr (List.mem_cons_of_mem _ h)
   · rcases List.mem_cons.1 h with h | h
     · exact .inr (h ▸ List.mem_cons_self)
     · rcases mem_setS h with h | h
       · exact .inl h
       · exact .inr (List.mem_cons_of_mem _ h)
theorem nodup_setS {k : Int} {s : ByteArray} : ∀ {l : List (Int × ByteArray)}, (l.map (·.1)).Nodup → ((setS l k s).map (·.1)).Nodup
 | [], _ => by unfold setS; simp
 | (a, u) :: t, h => by
   have h' := List.nodup_cons.1 (show (a :: t.map (·.1)).Nodup from h)
   unfold setS
   split
   · exact h
   · rename_i hne
     show (a :: (setS t k s).map (·.1)).Nodup
     refine List.nodup_cons.2 ⟨fun hm => ?_, nodup_setS h'.2⟩
     obtain ⟨p, hp, e⟩ := List.mem_map.1 hm
     rcases mem_setS hp with rfl | hp
     · exact hne e
     · exact h'.1 (e ▸ List.mem_map_of_mem hp)
structure ShJ (t t' : TreP) (F F' : Nat → ByteArray) : Prop where
 nd : ∀ n : Nat, n < 63 → getS t'.sheet (161 + n : Nat) = some (F' n) ∨ (getS t'.sheet (161 + n : Nat) = getS t.sheet (161 + n : Nat) ∧ F' n = F n)
 mem : ∀ p ∈ t'.sheet, p ∈ t.sheet ∨ (161 ≤ p.1 ∧ p.1 < 288 ∧ p.2.size = 64)
 un : (t.sheet.map (·.1)).Nodup → (t'.sheet.map (·.1)).Nodup
 d : t'.d = t.d
structure ChSh (p0 : ChP) (leaf : Nat) (l : Nat → ByteArray) (k : Nat) : Prop where
 on : ∀ i, i < k → getS (chg leaf l p0 k).t.sheet (161 + at_ leaf (i + 1) : Nat) = some (chB leaf l i (chg leaf l p0 i))
 off : ∀ n : Int, (∀ i, i < k → n ≠ (161 + at_ leaf (i + 1) : Nat)) → getS (chg leaf l p0 k).t.sheet n = getS p0.t.sheet n
 mem : ∀ p ∈ (chg leaf l p0 k).t.sheet, p ∈ p0.t.sheet ∨ ∃ i, i < k ∧ p = (((161 + at_ leaf (i + 1) : Nat) : Int), chB leaf l i (chg leaf l p0 i))
 un : (p0.t.sheet.map (·.1)).Nodup → ((chg leaf l p0 k).t.sheet.map (·.1)).Nodup
theorem ch_sh {leaf : Nat} (hl : leaf < 64) (p0 : ChP) (l : Nat → ByteArray) : ∀ k, k ≤ 6 → ChSh p0 leaf l k
 | 0, _ => ⟨fun i h => by omega, fun n _ => rfl, fun p hp => .inl hp, id⟩
 | k + 1, hk => by
   have ih := ch_sh hl p0 l k (by omega)
   refine ⟨fun i hi => ?_, fun n hn => ?_, fun p hp => ?_, fun hn => ?_⟩
   · rw [chg_s]; unfold chS
     simp only
     rw [getS_set]
     by_cases e : i = k
     · subst e; rw [if_pos rfl]
     · have hne : at_ leaf (i + 1) ≠ at_ leaf (k + 1) := fun h => e (at_inj hl (by omega) (by omega) h)
       rw [if_neg (by omega)]
       exact ih.on i (by omega)
   · rw [chg_s]; unfold chS
     simp only
     rw [getS_set, if_neg (hn k (by omega))]
     exact ih.off n fun i hi => hn i (by omega)
   · rw [chg_s] at hp; unfold chS at hp
     simp only at hp
     rcases mem_setS hp with rfl | hp
     · exact .inr ⟨k, by omega, rfl⟩
     · rcases ih.mem p hp with h | ⟨i, hi, h⟩
       · exact .inl h
       · exact .inr ⟨i, by omega, h⟩
   · rw [chg_s]; unfold chS
     simp only
     exact nodup_setS (ih.un hn)
structure PutI (r : RigP) (ts : List ByteArray) (t : TreP) (F f : Nat → ByteArray) (leaf : Nat) (b : ByteArray) (q : PutR) : Prop where
 e : q.e = 0
 fine : Fine q.r
 same : Same r q.r
 ti : ∃ F', TI q.r q.t F' (updB f leaf b) ∧ ShJ t q.t F F'
 sheet : q.t.sheet.length ≤ t.sheet.length + 7
 len : q.ts.length ≤ ts.length + 13
theorem chB_size {F f : Nat → ByteArray} {r : RigP} {ts : List ByteArray} {t : TreP} {leaf : Nat} (hl : leaf < 64) {p : DnP} (hd : DnI r ts t F f leaf 6 p) {i : Nat} (hi : i < 6) (c : ChP) : (chB leaf p.l i c).size = 64 := by
 unfold chB
 rw [hd.l i (by omega) hi]
 exact withS_size (hd.ti.sz _ (at_node hl hi)) _ _
theorem chg_sum {F f : Nat → ByteArray} {r : RigP} {ts : List ByteArray} {t : TreP} {leaf : Nat} (hl : leaf < 64) {p : DnP} (hd : DnI r ts t F f leaf 6 p) {i : Nat} (hi : i < 6) (c0 : ChP) : (chg leaf p.l c0 (i + 1)).sum = D (p1 (chB leaf p.l i (chg leaf p.l c0 i))) := by
 rw [chg_s]; unfold chS
 simp only
 rw [nodeD_ok (chB_size hl hd hi _)]
theorem putT_ok {r : RigP} {ts : List ByteArray} {t : TreP} {F f : Nat → ByteArray} (h : TI r t F f) (hf : Fine r) {leaf : Nat} (hl : leaf < 64) {b : ByteArray} (hb : b.size = 64) : PutI r ts t F f leaf b (putT r ts t leaf b) := by
 have hd := down_ok (ts := ts) h hf hl
 obtain ⟨p, ep⟩ : ∃ p, p = downT r ts t leaf := ⟨_, rfl⟩
 rw [← ep] at hd
 obtain ⟨c, ec⟩ : ∃ c, c = putC p leaf b := ⟨_, rfl⟩
 rw [putT_2 ep hd.e ec]
 unfold putC at ec
 obtain ⟨c0, e0⟩ : ∃ c0, c0 = (⟨(leafD p.ts b).1, p.t, (leafD p.ts b).2⟩ : ChP) := ⟨_, rfl⟩
 rw [← e0] at ec
 obtain ⟨c1, c2, c3, c4⟩ := ch_ok hl t c0 p.l 6 (Nat.le_refl _)
 obtain ⟨k1, k2, k3, k4⟩ := ch_sh hl c0 p.l 6 (Nat.le_refl _)
 have hcd := chg_d leaf p.l c0 6
 have hcl := chg_len leaf p.l c0 6
 have hsum := fun i hi => chg_sum (i := i) hl hd hi c0
 have hcs : c.sum = D (p1 (chB leaf p.l 5 (chg leaf p.l c0 5))) := by rw [ec]; exact hsum 5 (by omega)
 rw [← ec] at c2 c3 c4 hcd hcl k2 k3 k4
 have k1' : ∀ i, i < 6 → getS c.t.sheet (161 + at_ leaf (i + 1) : Nat) = some (chB leaf p.l i (chg leaf p.l c0 i)) := fun i hi => by rw [ec]; exact k1 i hi
 have c1' : ∀ i, i < 6 → getS c.t.known (at_ leaf (i + 1) : Nat) = some (chB leaf p.l i (chg leaf p.l c0 i)) := fun i hi => by rw [ec]; exact c1 i hi
 have h0t : c0.t = p.t := by rw [e0]
 have h0s : c0.sum = D (p0 b) := by rw [e0, leafD_ok hb]
 have h0l : c0.ts.length ≤ p.ts.length + 1 := by rw [e0, leafD_ok hb]; exact addT_len _ _
 rw [h0t] at c2 c3 c4 hcd k2 k3 k4
 rw [hd.sheet] at k2 k3 k4
 have hpl : ∀ i, i < 6 → p.l i = F (at_ leaf (i + 1)) := fun i hi => hd.l i (by omega) hi
 have on := fun i (hi : i < 6) => newF_on (F := F) hl p.l c0 hi
 have off : ∀ n, (¬ ∃ i, i < 6 ∧ at_ leaf (i + 1) = n) → newF F leaf p.l c0 n = F n := fun n hn => newF_off p.l c0 hn
 have hdl := hd.len
 -- the sum of what a step up has
 have sumi : ∀ i, i < 6 → (chg leaf p.l c0 i).sum = dg (newF F leaf p.l c0) (updB f leaf b) (at_ leaf i) := fun i hi => by
  cases i with
  | zero =>
    rw [chg_0, h0s, at_0]
    unfold dg updB
    rw [if_neg (by omega), if_pos (by omega)]
  | succ j =>
    rw [hsum j (by omega), ← on j (by omega)]
    unfold dg
    rw [if_pos (at_node hl (by omega))]
 -- a node that is no child on the path
 have other : ∀ n s, n < 63 → s ≤ 1 → (∀ j, j < 6 → at_ leaf (j + 1) = n → s ≠ side leaf j) → dg (newF F leaf p.l c0) (updB f leaf b) (2 * n + 1 + s) = dg F f (2 * n + 1 + s) := fun n s hn hs hne => by
  unfold dg
  by_cases hm : 2 * n + 1 + s < 63
  · rw [if_pos hm, if_pos hm, off]
    rintro ⟨j, hj, e⟩
    by_cases h5 : j = 5
    · subst h5; rw [at_6 hl] at e; omega
    · have hk := at_kid hl (show j + 1 < 6 by omega)
      have hsl := side_le leaf (j + 1)
      have := at_s leaf (j + 1)
      exact hne (j + 1) (by omega) (by omega) (by omega)
  · rw [if_neg hm, if_neg hm]
    unfold updB
    rw [if_neg]
    intro e
    have hk := at_kid hl (show 0 < 6 by omega)
    have hsl := side_le leaf 0
    have h00 := at_0 leaf
    exact hne 0 (by omega) (by omega) (by omega)
 refine ⟨rfl, hd.fine, hd.same, ⟨newF F leaf p.l c0, ?_, ?_⟩, ?_, ?_⟩
 · refine ⟨?_, fun n hn => ?_, fun n hn => ?_, ?_, fun n s hn hs => ?_, fun n s hn hg => ?_, fun n hn hg => ?_, fun n s hn hg => ?_, fun n hn hg => ?_⟩
   · simp only; rw [hcd.1]; exact hd.ti.d
   · by_cases hp : ∃ i, i < 6 ∧ at_ leaf (i + 1) = n
     · obtain ⟨i, hi, rfl⟩ := hp
       rw [on i hi]; exact chB_size hl hd hi _
     · rw [off n hp]; exact hd.ti.sz n hn
   · unfold updB
     split
     · exact hb
     · exact hd.ti.fsz n hn
   · simp only
     rw [hcs, ← on 5 (by omega), at_6 hl]
   · by_cases hp : ∃ i, i < 6 ∧ at_ leaf (i + 1) = n
     · obtain ⟨i, hi, rfl⟩ := hp
       have hz := hd.ti.sz _ (at_node hl hi)
       rw [on i hi]
       unfold chB
       rw [hpl i hi]
       by_cases e : s = side leaf i
       · subst e
         rw [split_with hz _ hs, ← at_kid hl hi, sumi i hi]
       · rw [split_other hz _ (side_le _ _) hs e, hd.ti.kid _ _ hn hs, other _ s hn hs]
         intro j hj ej
         have : j = i := by
          rcases Nat.le_total j i with h1 | h1
          · exact at_inj hl h1 hi ej
          · exact (at_inj hl h1 hj ej.symm).symm
         subst this; exact e
     · rw [off n hp, hd.ti.kid n s hn hs, other n s hn hs fun j hj ej => absurd ⟨j, hj, ej⟩ hp]
   · simp only at hg
     by_cases hp : ∃ i, i < 6 ∧ at_ leaf (i + 1) = n
     · obtain ⟨i, hi, rfl⟩ := hp
       rw [c1' i hi] at hg
       rw [on i hi]; exact (Option.some.inj hg).symm
     · rw [c2 n fun i hi e => hp ⟨i, hi, by omega⟩] at hg
       rw [off n hp]; exact hd.ti.known n s hn hg
   · simp only at hg ⊢
     by_cases hp : ∃ i, i < 6 ∧ at_ leaf (i + 1) = n
     · obtain ⟨i, hi, rfl⟩ := hp
       rw [c1' i hi] at hg; cases hg
     · rw [c2 n fun i hi e => hp ⟨i, hi, by omega⟩] at hg
       rw [off n hp, hcd.1]; exact hd.ti.dev n hn hg
   · simp only at hg
     rw [getS_set] at hg
     unfold updB
     by_cases e : n = leaf
     · subst e; rw [if_pos rfl] at hg ⊢; exact (Option.some.inj hg).symm
     · rw [if_neg (by omega), c3 (224 + n) (by omega)] at hg
       rw [if_neg e]; exact hd.ti.sheet n s hn hg
   · simp only at hg ⊢
     rw [getS_set] at hg
     unfold updB
     by_cases e : n = leaf
     · subst e; rw [if_pos rfl] at hg; cases hg
     · rw [if_neg (by omega), c3 (224 + n) (by omega)] at hg
       rw [if_neg e, hcd.1]; exact hd.ti.leaf n hn hg
 · refine ⟨fun n hn => ?_, fun q hq => ?_, fun hn => ?_, ?_⟩
   · simp only
     rw [getS_set, if_neg (by omega)]
     by_cases hp : ∃ i, i < 6 ∧ at_ leaf (i + 1) = n
     · obtain ⟨i, hi, rfl⟩ := hp
       rw [k1' i hi, on i hi]; exact .inl rfl
     · rw [off n hp]
       exact .inr ⟨k2 _ fun i hi e => hp ⟨i, hi, by omega⟩, rfl⟩
   · simp only at hq
     rcases mem_setS hq with rfl | hq
     · exact .inr ⟨by show (161 : Int) ≤ (224 + leaf : Nat); omega, by show ((224 + leaf : Nat) : Int) < 288; omega, hb⟩
     · rcases k3 q hq with h1 | ⟨i, hi, rfl⟩
       · exact .inl h1
       · have := at_node hl hi
         exact .inr ⟨by show (161 : Int) ≤ (161 + at_ leaf (i + 1) : Nat); omega, by show ((161 + at_ leaf (i + 1) : Nat) : Int) < 288; omega, chB_size hl hd hi _⟩
   · simp only
     exact nodup_setS (k4 hn)
   · simp only
     rw [hcd.1]; exact hd.d
 · simp only
   have := setS_len (224 + leaf : Nat) b c.t.sheet
   rw [hd.sheet] at c4
   omega
 · simp only
   omega
end Tree
namespace Wld
open Go Ev Sha Aes Orc Node Rec Chn Jrn Cau Sto Ivs Ctr Aut
open Rig (Fnc_takeR RigP Rg rgM z64 app_of RigA)
open Tree (TreP TreA Tre treM TI Same getT_ok putT_ok GetI PutI updB getT putT)
structure Sy where
 r : RigP
 o : Orc
 V : StoV
 v : VP
def syM (a : RigA) (A : StoA) (B : VA) (S : Sy) : List Blk := sysM a S.r S.o A S.V ++ vM B A.sn S.v
structure WI (a : RigA) (A : StoA) (on : Nat) (S : Sy) (f0 f1 : Nat → ByteArray) (m b : Nat) : Prop where
 sok : SOk ⟨A, S.V⟩ a.rn on
 on : S.o.on = on
 t0 : ∃ F, TI S.r S.V.t0 F f0
 t1 : ∃ F, TI S.r S.V.t1 F f1
 d0 : S.V.t0.d = 0
 d1 : S.V.t1.d = 1
 sh0 : S.V.t0.sheet.length ≤ m
 sh1 : S.V.t1.sheet.length ≤ m
 len : S.o.ts.length ≤ b
 vok : VOk S.r S.V S.v.x
 key : ∀ i, by8 (S.v.k i)
 cnt : 0 ≤ S.v.n ∧ S.v.n ≤ m
def fs (f0 f1 : Nat → ByteArray) (d : Int) : Nat → ByteArray := if d = 0 then f0 else f1
theorem WI.can {a : RigA} {A : StoA} {on : Nat} {S : Sy} {f0 f1 : Nat → ByteArray} {m b : Nat} (h : WI a A on S f0 f1 m b) (hb : b ≤ 1099511610000) : Aut.Can a S.o A S.V :=
 ⟨by rw [h.on]; exact h.sok, h.vok.att, h.vok.ok, by have := h.len; omega⟩
theorem sok_to {A : StoA} {V V' : StoV} {rn on : Nat} (h : SOk ⟨A, V⟩ rn on) (h1 : V'.rn = V.rn) (h2 : V'.on = V.on) : SOk ⟨A, V'⟩ rn on := ⟨h1.trans h.rn, h2.trans h.on, h.r0, h.o0, h.r1, h.o1⟩
theorem fl_0 {V : StoV} (h : V.failed = 0) {e : Int} (he : failE e V.failed = 0) : V.fl e = V := by
 unfold StoV.fl
 rw [he, ← h]
theorem getO_in {r : RigP} {ts : List ByteArray} {V : StoV} {d : Int} {l : Nat} (hd : d = 0 ∨ d = 1) (hl : l < 64) :
 getO r ts V d l = ⟨(getT r ts (V.tr d) l).r, (getT r ts (V.tr d) l).ts, V.setTr d (getT r ts (V.tr d) l).t, (getT r ts (V.tr d) l).s, (getT r ts (V.tr d) l).is, (getT r ts (V.tr d) l).e⟩ := by
 unfold getO
 rw [if_neg (by omega)]
 unfold getA
 rw [if_pos ⟨by omega, by omega⟩]
 rfl
theorem putO_in {r : RigP} {ts : List ByteArray} {V : StoV} {d : Int} {l : Nat} {s : ByteArray} (hd : d = 0 ∨ d = 1) (hl : l < 64) (hs : s.size = 64) (hr : (V.tr d).sheet.length ≤ 57) :
 putO r ts V d l s = ⟨(putT r ts (V.tr d) l s).r, (putT r ts (V.tr d) l s).ts, V.setTr d (putT r ts (V.tr d) l s).t, ByteArray.empty, false, (putT r ts (V.tr d) l s).e⟩ := by
 unfold putO
 rw [if_neg (by omega), if_neg (by omega)]
 unfold putA
 rw [if_pos ⟨by omega, by omega⟩, if_pos hs]
 rfl
theorem wi_set {a : RigA} {A : StoA} {on : Nat} {S : Sy} {f0 f1 : Nat → ByteArray} {m b : Nat} (h : WI a A on S f0 f1 m b) {d : Int} (hd : d = 0 ∨ d = 1) {r' : RigP} {o' : Orc} {t' : TreP} {F' f' : Nat → ByteArray} {m' b' : Nat}
 (hf : Fine r') (hs : Same S.r r') (ht : TI r' t' F' f') (hdd : t'.d = d) (hl : t'.sheet.length ≤ m') (hm : m ≤ m') (ho : o'.on = on) (hb : o'.ts.length ≤ b') :
 WI a A on ⟨r', o', S.V.setTr d t', S.v⟩ (if d = 0 then f' else f0) (if d = 0 then f1 else f') m' b' := by
 obtain ⟨F0, h0⟩ := h.t0
 obtain ⟨F1, h1⟩ := h.t1
 have hv := h.vok
 have hc := h.cnt
 have s0 := h.sh0
 have s1 := h.sh1
 rcases hd with rfl | rfl
 · rw [if_pos rfl, if_pos rfl]
   exact ⟨sok_to h.sok rfl rfl, ho, ⟨F', ht⟩, ⟨F1, h1.same hs⟩, hdd, h.d1, hl, by show S.V.t1.sheet.length ≤ _; omega, hb, ⟨hv.row, hv.top, hv.reg, hf, hv.ok, hv.att⟩, h.key, ⟨hc.1, by show S.v.n ≤ _; have := hc.2; omega⟩⟩
 · rw [if_neg (by decide), if_neg (by decide)]
   exact ⟨sok_to h.sok rfl rfl, ho, ⟨F0, h0.same hs⟩, ⟨F', ht⟩, h.d0, hdd, by show S.V.t0.sheet.length ≤ _; omega, hl, hb, ⟨hv.row, hv.top, hv.reg, hf, hv.ok, hv.att⟩, h.key, ⟨hc.1, by show S.v.n ≤ _; have := hc.2; omega⟩⟩
theorem wi_tree {a : RigA} {A : StoA} {on : Nat} {S : Sy} {f0 f1 : Nat → ByteArray} {m b : Nat} (h : WI a A on S f0 f1 m b) {d : Int} (hd : d = 0 ∨ d = 1) : (∃ F, TI S.r (S.V.tr d) F (fs f0 f1 d)) ∧ (S.V.tr d).d = d ∧ (S.V.tr d).sheet.length ≤ m := by
 rcases hd with rfl | rfl
 · exact ⟨h.t0, h.d0, h.sh0⟩
 · exact ⟨h.t1, h.d1, h.sh1⟩
theorem fs_set (f0 f1 : Nat → ByteArray) (d : Int) : (if d = 0 then fs f0 f1 d else f0) = f0 ∧ (if d = 0 then f1 else fs f0 f1 d) = f1 := by
 unfold fs
 constructor
 · split <;> rfl
 · split <;> rfl
structure GotI (a : RigA) (A : StoA) (on : Nat) (S : Sy) (f0 f1 : Nat → ByteArray) (m b : Nat) (d : Int) (l : Nat) (q : OutR) : Prop where
 e : q.e = 0
 wi : ∀ o' : Orc, o'.on = on → o'.ts = q.ts → WI a A on ⟨q.r, o', q.V.fl 0, S.v⟩ f0 f1 m (b + 7)
 is : q.is = true ↔ fs f0 f1 d l ≠ z64
 s : q.is = true → q.s = fs f0 f1 d l
theorem got {a : RigA} {A : StoA} {on : Nat} {S : Sy} {f0 f1 : Nat → ByteArray} {m b : Nat} (h : WI a A on S f0 f1 m b) {d : Int} {l : Nat} (hd : d = 0 ∨ d = 1) (hl : l < 64) : GotI a A on S f0 f1 m b d l (getO S.r S.o.ts S.V d l) := by
 obtain ⟨⟨F, ht⟩, hdd, hsh⟩ := wi_tree h hd
 have hg := getT_ok (ts := S.o.ts) ht h.vok.fine hl
 have hd0 : ∀ t : TreP, (S.V.setTr d t).failed = 0 := fun t => by unfold StoV.setTr; split <;> exact h.vok.ok
 have htd : (getT S.r S.o.ts (S.V.tr d) l).t.d = d := by
  have := (Tree.down_ok (ts := S.o.ts) ht h.vok.fine hl)
  exact (Tree.getT_d _ _ _ _).trans (this.d.trans hdd)
 rw [getO_in hd hl]
 refine ⟨hg.e, fun o' ho hts => ?_, hg.is, hg.s⟩
 simp only at hts ⊢
 rw [fl_0 (hd0 _) (by rw [hd0]; rfl)]
 have := wi_set h hd (o' := o') (b' := b + 7) hg.fine hg.same hg.ti htd (by rw [hg.sheet]; exact hsh) (Nat.le_refl m) ho (by rw [hts]; have := hg.len; have := h.len; omega)
 rw [(fs_set f0 f1 d).1, (fs_set f0 f1 d).2] at this
 exact this
structure PutW (a : RigA) (A : StoA) (on : Nat) (S : Sy) (f0 f1 : Nat → ByteArray) (m b : Nat) (d : Int) (l : Nat) (s : ByteArray) (q : OutR) : Prop where
 e : q.e = 0
 wi : ∀ o' : Orc, o'.on = on → o'.ts = q.ts → WI a A on ⟨q.r, o', q.V.fl 0, S.v⟩ (if d = 0 then updB f0 l s else f0) (if d = 0 then f1 else updB f1 l s) (m + 7) (b + 13)
theorem fs_upd (f0 f1 : Nat → ByteArray) (d : Int) (l : Nat) (s : ByteArray) : (if d = 0 then updB (fs f0 f1 d) l s else f0) = (if d = 0 then updB f0 l s else f0) ∧ (if d = 0 then f1 else updB (fs f0 f1 d) l s) = (if d = 0 then f1 else updB f1 l s) := by
 unfold fs
 constructor
 · split <;> rfl
 · split <;> rfl
theorem put {a : RigA} {A : StoA} {on : Nat} {S : Sy} {f0 f1 : Nat → ByteArray} {m b : Nat} (h : WI a A on S f0 f1 m b) {d : Int} {l : Nat} {s : ByteArray} (hd : d = 0 ∨ d = 1) (hl : l < 64) (hs : s.size = 64) (hm : m ≤ 57) : PutW a A on S f0 f1 m b d l s (putO S.r S.o.ts S.V d l s) := by
 obtain ⟨⟨F, ht⟩, hdd, hsh⟩ := wi_tree h hd
 have hg := putT_ok (ts := S.o.ts) ht h.vok.fine hl hs
 have hd0 : ∀ t : TreP, (S.V.setTr d t).failed = 0 := fun t => by unfold StoV.setTr; split <;> exact h.vok.ok
 have htd : (putT S.r S.o.ts (S.V.tr d) l s).t.d = d := by
  have := (Tree.down_ok (ts := S.o.ts) ht h.vok.fine hl)
  exact (Tree.putT_d _ _ _ _ _).trans (this.d.trans hdd)
 obtain ⟨F', hti, _⟩ := hg.ti
 rw [putO_in hd hl hs (by omega)]
 refine ⟨hg.e, fun o' ho hts => ?_⟩
 simp only at hts ⊢
 rw [fl_0 (hd0 _) (by rw [hd0]; rfl)]
 have := wi_set h hd (o' := o') (b' := b + 13) (m' := m + 7) hg.fine hg.same hti htd (by have := hg.sheet; omega) (by omega) ho (by rw [hts]; have := hg.len; have := h.len; omega)
 rw [(fs_upd f0 f1 d l s).1, (fs_upd f0 f1 d l s).2] at this
 exact this
end Wld
namespace Wld
open Go Ev Sha Aes Orc Node Rec Chn Jrn Cau Sto Ivs Ctr Aut
open Rig (Fnc_takeR RigP Rg rgM z64 app_of RigA)
open Tree (TreP TreA Tre treM TI Same getT_ok putT_ok GetI PutI updB getT putT)
def AQ (a : RigA) (A : StoA) (B : VA) (P : Sy → Prop) (v : Value) : Ending → List Blk → Prop := fun e M => ∃ S', P S' ∧ e = .returned v ∧ M = syM a A B S'
theorem call_a {P : Program} {f : FuncId} {args : List Value} {a : RigA} {A : StoA} {B : VA} {S : Sy} {Q : Sy → Prop} {v : Value} {M R : List Blk} {k : Kv} {pan : Kp} (h : Fnc P f args (syM a A B S) (AQ a A B Q v)) (ht : TakesG M (syM a A B S) R)
 (hk : ∀ S', Q S' → k v (syM a A B S' ++ R)) : Cl P f args M k pan :=
 call_g h ht fun e A' ⟨S', h1, h2, h3⟩ => by subst h2; subst h3; exact hk S' h1
theorem sy_2 (a : RigA) (A : StoA) (B : VA) (r : RigP) (o : Orc) (V : StoV) (v : VP) : syM a A B ⟨r, o, V, v⟩ = (sysM a r o A V ++ [vB B A.sn v]) ++ [kB B.kn v.k, rwB B.wn v.x] := by
 unfold syM vM; rw [List.append_assoc]; rfl
theorem sy_3 (a : RigA) (A : StoA) (B : VA) (r : RigP) (o : Orc) (V : StoV) (v : VP) : syM a A B ⟨r, o, V, v⟩ = (sysM a r o A V ++ [vB B A.sn v, kB B.kn v.k]) ++ [rwB B.wn v.x] := by
 unfold syM vM; rw [List.append_assoc]; rfl
section
variable {a : RigA} {A : StoA} {B : VA} {on : Nat} {S : Sy} {f0 f1 : Nat → ByteArray} {m b : Nat}
def FB (f : Nat → ByteArray) : Prop := ∀ l, l < 64 → f l = z64 ∨ kdOk (f l)
theorem FB.upd {f : Nat → ByteArray} (h : FB f) (l : Nat) {s : ByteArray} (hs : s = z64 ∨ kdOk s) : FB (updB f l s) := fun j hj => by
 unfold updB; split
 · exact hs
 · exact h j hj
theorem FB.fs {f0 f1 : Nat → ByteArray} (h0 : FB f0) (h1 : FB f1) (d : Int) : FB (fs f0 f1 d) := by unfold Wld.fs; split <;> assumption
def up0 (f0 : Nat → ByteArray) (d : Int) (l : Nat) (s : ByteArray) : Nat → ByteArray := if d = 0 then updB f0 l s else f0
def up1 (f1 : Nat → ByteArray) (d : Int) (l : Nat) (s : ByteArray) : Nat → ByteArray := if d = 0 then f1 else updB f1 l s
theorem FB.up {f0 f1 : Nat → ByteArray} (h0 : FB f0) (h1 : FB f1) (d : Int) (l : Nat) {s : ByteArray} (hs : s = z64 ∨ kdOk s) : FB (up0 f0 d l s) ∧ FB (up1 f1 d l s) := by
 unfold up0 up1
 constructor
 · split
   · exact h0.upd l hs
   · exact h0
 · split
   · exact h1
   · exact h1.upd l hs
open Classical in
noncomputable def dat (k : Nat → Int) (s : ByteArray) : ByteArray := if s = z64 then z48 else bodyS k s
theorem w_read (h : WI a A on S f0 f1 m b) (hf : FB f0 ∧ FB f1) {d : Int} {l : Nat} (hd : d = 0 ∨ d = 1) (hl : l < 64) (hb : b ≤ 1099511610000) :
 Fnc Tryz.prog 32 [pt B.vn, .int .i64 d, .int .i64 l] (syM a A B S)
  (AQ a A B (fun S' => WI a A on S' f0 f1 m (b + 7) ∧ S'.v = S.v) (.tuple #[.string (dat S.v.k (fs f0 f1 d l)), .int .i64 0])) := by
 obtain ⟨r, o, V, v⟩ := S
 have hp := got h hd hl
 obtain ⟨q, eq⟩ : ∃ q, q = getO r o.ts V d l := ⟨_, rfl⟩
 have eq' : getO r o.ts V d l = q := eq.symm
 rw [show (⟨r, o, V, v⟩ : Sy).r = r from rfl, show (⟨r, o, V, v⟩ : Sy).o = o from rfl, show (⟨r, o, V, v⟩ : Sy).V = V from rfl, eq'] at hp
 have hs := readv a r o A V B v d l (h.can hb) h.key q eq (fun _ hi => by
  rw [hp.s hi]
  rcases (FB.fs hf.1 hf.2 d) l hl with h1 | h1
  · exact absurd h1 (hp.is.1 hi)
  · exact h1)
 have hv : readS v.k q = dat v.k (fs f0 f1 d l) := by
  unfold readS dat
  rw [if_neg (by simp [hp.e])]
  by_cases hz : fs f0 f1 d l = z64
  · rw [if_pos hz]
    have : q.is = false := by
     cases hi : q.is with
     | false => rfl
     | true => exact absurd hz (hp.is.1 hi)
    rw [if_pos this]
  · rw [if_neg hz]
    have hi := hp.is.2 hz
    rw [if_neg (by simp [hi]), hp.s hi]
 rw [hv, hp.e] at hs
 rw [sy_3]
 refine Fnc_mono (Fnc_more hs) ?_
 rintro e M ⟨A', h1, o', h2, h3, h4, h5⟩
 subst h4; subst h1
 exact ⟨⟨q.r, o', q.V.fl 0, v⟩, ⟨hp.wi o' (h2.trans h.on) h3, rfl⟩, h5, (sy_3 _ _ _ _ _ _ _).symm⟩
theorem numX_ok {r : RigP} {V : StoV} {x : RwP} (h : VOk r V x) (hn : x.next < x.many) : VOk (numR r V x) (numV V x) (numX x) := by
 have hr := h.row
 unfold rowOk at hr
 by_cases hlt : x.next < x.top
 · unfold numR numV numX
   rw [if_pos hlt, if_pos hlt, if_pos hlt]
   exact ⟨⟨by show 0 ≤ x.next + 1; omega, by show x.next + 1 ≤ x.top; omega, by show x.top ≤ x.many; omega, by show x.many ≤ _; omega⟩, h.top, h.reg, h.fine, h.ok, h.att⟩
 · unfold numR numV numX
   rw [if_neg hlt, if_neg hlt, if_neg hlt]
   have hN : needN x = min (x.top + 16) x.many := by unfold needN; rw [if_neg (by omega)]
   have hi : ivOk V.is (needN x) := by unfold ivOk; rw [h.top]; omega
   exact ⟨⟨by show 0 ≤ x.next + 1; omega, by show x.next + 1 ≤ needN x; omega, by show needN x ≤ x.many; omega, by show x.many ≤ _; omega⟩, rfl, to_ok h.reg hi, fine_sr h.fine _, h.ok, h.att⟩
theorem same_num (r : RigP) (V : StoV) (x : RwP) : Same r (numR r V x) := by
 unfold numR
 split
 · exact Same.refl r
 · unfold srF; exact ⟨rfl, rfl⟩
theorem wi_seal {r : RigP} {o : Orc} {V : StoV} {v : VP} (h : WI a A on ⟨r, o, V, v⟩ f0 f1 m b) (hn : v.x.next < v.x.many) : WI a A on ⟨numR r V v.x, o, numV V v.x, sealX v⟩ f0 f1 (m + 1) b := by
 obtain ⟨F0, h0⟩ := h.t0
 obtain ⟨F1, h1⟩ := h.t1
 have e0 : (numV V v.x).t0 = V.t0 := by unfold numV; split <;> rfl
 have e1 : (numV V v.x).t1 = V.t1 := by unfold numV; split <;> rfl
 have hc := h.cnt
 have s0 := h.sh0
 have s1 := h.sh1
 simp only at hc s0 s1
 refine ⟨sok_num h.sok _, h.on, ⟨F0, ?_⟩, ⟨F1, ?_⟩, ?_, ?_, ?_, ?_, h.len, numX_ok h.vok hn, h.key, ⟨by show 0 ≤ v.n + 1; omega, by show v.n + 1 ≤ ((m + 1 : Nat) : Int); omega⟩⟩
 · show TI _ (numV V v.x).t0 F0 f0
   rw [e0]; exact h0.same (same_num _ _ _)
 · show TI _ (numV V v.x).t1 F1 f1
   rw [e1]; exact h1.same (same_num _ _ _)
 · show (numV V v.x).t0.d = 0
   rw [e0]; exact h.d0
 · show (numV V v.x).t1.d = 1
   rw [e1]; exact h.d1
 · show (numV V v.x).t0.sheet.length ≤ _
   rw [e0]; omega
 · show (numV V v.x).t1.sheet.length ≤ _
   rw [e1]; omega
theorem w_write (h : WI a A on S f0 f1 m b) {d : Int} {l : Nat} {s : ByteArray} (hd : d = 0 ∨ d = 1) (hl : l < 64) (hs48 : s.size = 48) (hn : S.v.x.next < S.v.x.many) (hm : m ≤ 50) (hb : b ≤ 1099511610000) :
 Fnc Tryz.prog 70 [pt B.vn, .int .i64 d, .int .i64 l, .string s] (syM a A B S)
  (AQ a A B (fun S' => WI a A on S' (up0 f0 d l (sealB S.v s)) (up1 f1 d l (sealB S.v s)) (m + 8) (b + 13) ∧ S'.v = sealX S.v) (.int .i64 0)) := by
 obtain ⟨r, o, V, v⟩ := S
 have hk := sealB_ok h.vok hn hs48
 have hw := wi_seal h hn
 have hp := put hw hd hl hk.1 (by omega)
 obtain ⟨q, eq⟩ : ∃ q, q = putO (numR r V v.x) o.ts (numV V v.x) d l (sealB v s) := ⟨_, rfl⟩
 have hs := write_ a r o A V B v d l s (h.can hb) h.vok hn h.key hs48 ⟨h.cnt.1, by have := h.cnt.2; simp only at this; omega⟩ q eq
 have hp : PutW a A on ⟨numR r V v.x, o, numV V v.x, sealX v⟩ f0 f1 (m + 1) b d l (sealB v s) q := by rw [eq]; exact hp
 rw [hp.e] at hs
 refine Fnc_mono hs ?_
 rintro e M ⟨o', h2, h3, h4, h5⟩
 subst h4
 exact ⟨⟨q.r, o', q.V.fl 0, sealX v⟩, ⟨hp.wi o' (h2.trans h.on) h3, rfl⟩, h5, rfl⟩
theorem orc_of (on : Nat) (ts : List ByteArray) : ∃ o : Orc, o.on = on ∧ o.ts = ts := by
 have hl := rowT_len ts
 exact ⟨⟨on, 0, ts, .at_ 0 ts.length [], ⟨hl, Nat.le_refl _, by rw [List.append_nil]; exact hl⟩⟩, rfl, rfl⟩
theorem w_copy (h : WI a A on S f0 f1 m b) {d e : Int} {l t : Nat} (hd : d = 0 ∨ d = 1) (hl : l < 64) (he : e = 0 ∨ e = 1) (ht : t < 64) (hz : (fs f0 f1 d l).size = 64) (hm : m ≤ 57) (hb : b ≤ 1099511600000) :
 Fnc Tryz.prog 71 [pt B.vn, .int .i64 d, .int .i64 l, .int .i64 e, .int .i64 t] (syM a A B S)
  (AQ a A B (fun S' => WI a A on S' (up0 f0 e t (fs f0 f1 d l)) (up1 f1 e t (fs f0 f1 d l)) (m + 7) (b + 20) ∧ S'.v = S.v) (.int .i64 0)) := by
 obtain ⟨r, o, V, v⟩ := S
 have hg := got h hd hl
 obtain ⟨p, ep⟩ : ∃ p, p = getO r o.ts V d l := ⟨_, rfl⟩
 have hg : GotI a A on ⟨r, o, V, v⟩ f0 f1 m b d l p := by rw [ep]; exact hg
 have hbl : (if p.is then p.s else z64) = fs f0 f1 d l := by
  by_cases hi : p.is = true
  · rw [if_pos hi, hg.s hi]
  · rw [if_neg hi]
    by_cases hzz : fs f0 f1 d l = z64
    · exact hzz.symm
    · exact absurd (hg.is.2 hzz) hi
 obtain ⟨q, eq⟩ : ∃ q, q = putO p.r p.ts (p.V.fl 0) e t (if p.is then p.s else z64) := ⟨_, rfl⟩
 obtain ⟨o1, ho1, ho2⟩ := orc_of on p.ts
 have hw := hg.wi o1 ho1 ho2
 have hc := hw.can (by omega)
 have hq : putO p.r o1.ts (p.V.fl 0) e t (fs f0 f1 d l) = q := by rw [ho2, eq, hbl]
 have hp : PutW a A on ⟨p.r, o1, p.V.fl 0, v⟩ f0 f1 m (b + 7) e t (fs f0 f1 d l) q := by
  have := put hw he ht hz hm
  rw [show putO (⟨p.r, o1, p.V.fl 0, v⟩ : Sy).r (⟨p.r, o1, p.V.fl 0, v⟩ : Sy).o.ts (⟨p.r, o1, p.V.fl 0, v⟩ : Sy).V e t (fs f0 f1 d l) = q from hq] at this
  exact this
 have hs := copy_ok a r o A V B v d l e t (h.can (by omega)) p q ep hg.e ⟨by rw [show o.on = o1.on from (h.on.trans ho1.symm)]; exact hc.ok, hc.att, hc.fl, by rw [← ho2]; exact hc.len⟩ eq
 rw [hp.e] at hs
 rw [sy_2]
 refine Fnc_mono (Fnc_more hs) ?_
 rintro x M ⟨A', h1, o', h2, h3, h4, h5⟩
 subst h4; subst h1
 exact ⟨⟨q.r, o', q.V.fl 0, v⟩, ⟨hp.wi o' (h2.trans h.on) h3, rfl⟩, h5, (sy_2 _ _ _ _ _ _ _).symm⟩
theorem w_get (h : WI a A on S f0 f1 m b) {d : Int} {l : Nat} (hd : d = 0 ∨ d = 1) (hl : l < 64) (hz : fs f0 f1 d l ≠ z64) (hb : b ≤ 1099511610000) :
 Fnc Tryz.prog 44 [pt A.sn, .int .i64 d, .int .i64 l] (syM a A B S)
  (AQ a A B (fun S' => WI a A on S' f0 f1 m (b + 7) ∧ S'.v = S.v) (.tuple #[.string (fs f0 f1 d l), .bool true, .int .i64 0])) := by
 obtain ⟨r, o, V, v⟩ := S
 have hp := got h hd hl
 have hc := h.can hb
 have hs := get_ a r o A V d l hc.ok hc.att hc.fl hc.len
 obtain ⟨q, eq⟩ : ∃ q, q = getO r o.ts V d l := ⟨_, rfl⟩
 have hp : GotI a A on ⟨r, o, V, v⟩ f0 f1 m b d l q := by rw [eq]; exact hp
 have hi := hp.is.2 hz
 rw [← eq, hp.e, hi, hp.s hi] at hs
 show Fnc _ _ _ (sysM a r o A V ++ vM B A.sn v) _
 refine Fnc_mono (Fnc_more hs) ?_
 rintro x M ⟨A', h1, o', h2, h3, h4, h5⟩
 subst h4; subst h1
 exact ⟨⟨q.r, o', q.V.fl 0, v⟩, ⟨hp.wi o' (h2.trans h.on) h3, rfl⟩, h5, rfl⟩
end
end Wld
namespace Wld
open Go Ev Sha Aes Orc Node Rec Chn Jrn Cau Sto Ivs Ctr Aut
open Rig (Fnc_takeR RigP Rg rgM z64 app_of RigA)
open Tree (TreP TreA Tre treM TI Same getT_ok putT_ok GetI PutI updB getT putT dg)
def nw_ (r : RigP) (d : Int) (j : Nat) : ByteArray := ((r.dev d) j).now
theorem setDev_dev (r : RigP) (d d' : Int) (x : Rig.DevC) (hd : d = 0 ∨ d = 1) (hd' : d' = 0 ∨ d' = 1) : (r.setDev d x).dev d' = if d' = d then x else r.dev d' := by
 rcases hd with rfl | rfl <;> rcases hd' with rfl | rfl <;> rfl
theorem nw_wr (r : RigP) (d d' : Int) (i j : Nat) (s : ByteArray) (hd : d = 0 ∨ d = 1) (hd' : d' = 0 ∨ d' = 1) : nw_ (wrF r d i s) d' j = if d' = d ∧ j = i then s else nw_ r d' j := by
 unfold nw_ wrF
 rw [setDev_dev _ _ _ _ hd hd']
 by_cases h : d' = d
 · rw [if_pos h]
   subst h
   unfold Rig.writeD Rig.updD
   by_cases hj : j = i
   · rw [if_pos hj, if_pos ⟨rfl, hj⟩]
   · rw [if_neg hj, if_neg (fun h => hj h.2)]; rfl
 · rw [if_neg h, if_neg (fun h' => h h'.1)]; rfl
theorem nw_fl (r : RigP) (d d' : Int) (j : Nat) (hd : d = 0 ∨ d = 1) (hd' : d' = 0 ∨ d' = 1) : nw_ (flF r d) d' j = nw_ r d' j := by
 unfold nw_ flF
 rw [setDev_dev _ _ _ _ hd hd']
 by_cases h : d' = d
 · rw [if_pos h]; subst h; rfl
 · rw [if_neg h]; rfl
theorem nw_sr (r : RigP) (s : ByteArray) (d' : Int) (j : Nat) : nw_ (srF r s) d' j = nw_ r d' j := by unfold nw_ srF; rfl
theorem nw_layN (r : RigP) (d : Nat) (hd : d ≤ 1) (d' : Int) (hd' : d' = 0 ∨ d' = 1) (j : Nat) : ∀ k, nw_ (layN r d k) d' j = if d' = (d : Int) ∧ 161 ≤ j ∧ j < 161 + k then (bare (high (j - 161))).1 else nw_ r d' j
 | 0 => by rw [if_neg (by omega)]; rfl
 | k + 1 => by
   rw [layN_s, nw_wr _ _ _ _ _ _ (by omega) hd', nw_layN r d hd d' hd' j k]
   by_cases h : d' = (d : Int) ∧ j = 161 + k
   · rw [if_pos h, if_pos ⟨h.1, by omega, by omega⟩, show j - 161 = k by omega]
   · rw [if_neg h]
     by_cases h2 : d' = (d : Int) ∧ 161 ≤ j ∧ j < 161 + k
     · rw [if_pos h2, if_pos ⟨h2.1, h2.2.1, by omega⟩]
     · rw [if_neg h2, if_neg (fun h3 => h2 ⟨h3.1, h3.2.1, by have : j ≠ 161 + k := fun e => h ⟨h3.1, e⟩; omega⟩)]
theorem nw_layL (r : RigP) (d : Nat) (hd : d ≤ 1) (d' : Int) (hd' : d' = 0 ∨ d' = 1) (j : Nat) : ∀ k, nw_ (layL r d k) d' j = if d' = (d : Int) ∧ 224 ≤ j ∧ j < 224 + k then (bare 0).1 else nw_ r d' j
 | 0 => by rw [if_neg (by omega)]; rfl
 | k + 1 => by
   rw [layL_s, nw_wr _ _ _ _ _ _ (by omega) hd', nw_layL r d hd d' hd' j k]
   by_cases h : d' = (d : Int) ∧ j = 224 + k
   · rw [if_pos h, if_pos ⟨h.1, by omega, by omega⟩]
   · rw [if_neg h]
     by_cases h2 : d' = (d : Int) ∧ 224 ≤ j ∧ j < 224 + k
     · rw [if_pos h2, if_pos ⟨h2.1, h2.2.1, by omega⟩]
     · rw [if_neg h2, if_neg (fun h3 => h2 ⟨h3.1, h3.2.1, by have : j ≠ 224 + k := fun e => h ⟨h3.1, e⟩; omega⟩)]
theorem nw_fr (r : RigP) (d : Nat) (hd : d ≤ 1) (d' : Int) (hd' : d' = 0 ∨ d' = 1) (j : Nat) (hj : 161 ≤ j ∧ j < 288) : nw_ (frR r d 0) d' j = if d' = (d : Int) then (if j < 224 then (bare (high (j - 161))).1 else (bare 0).1) else nw_ r d' j := by
 unfold frR layR
 rw [nw_wr _ _ _ _ _ _ (by omega) hd', if_neg (by omega), nw_layL _ d hd d' hd', nw_layN _ d hd d' hd']
 by_cases h : d' = (d : Int)
 · rw [if_pos h]
   by_cases h2 : j < 224
   · rw [if_neg (by omega), if_pos ⟨h, by omega, by omega⟩, if_pos h2]
   · rw [if_pos ⟨h, by omega, by omega⟩, if_neg h2]
 · rw [if_neg (fun h2 => h h2.1), if_neg (fun h2 => h h2.1), if_neg h]
noncomputable def bF (n : Nat) : ByteArray := (bare (high n)).1
theorem high_pos {n : Nat} (h : n < 63) : high n ≠ 0 := by have := dep_le n; unfold high; omega
theorem high_kid {n s : Nat} (hs : s ≤ 1) (hm : 2 * n + 1 + s < 63) : high n = high (2 * n + 1 + s) + 1 := by
 have h1 := dep_up (n := 2 * n + 1 + s) (by omega) hm
 rw [show (2 * n + 1 + s - 1) / 2 = n by omega] at h1
 have h2 := dep_le (2 * n + 1 + s)
 unfold high
 omega
theorem high_last {n : Nat} (h : n < 63) (h2 : 31 ≤ n) : high n = 1 := by
 unfold high dep
 rw [if_neg (by omega), if_neg (by omega), if_neg (by omega), if_neg (by omega), if_neg (by omega)]
theorem split_dup (d : Dg) {s : Nat} (hs : s ≤ 1) : dl (splitD (dup d) s) = dl d := by
 apply Tree.dl_eq
 intro j hj
 unfold splitD
 rw [if_pos (dup_size d)]
 unfold halfD
 have hd : (dup d).data.toList = dl d ++ dl d := by unfold dup; rw [ByteArray.data_append, Array.toList_append]; rfl
 rw [hd]
 have hc : s = 0 ∨ s = 1 := by omega
 rcases hc with rfl | rfl
 · rw [List.getElem?_append_left (by rw [dl_len]; omega), show 32 * 0 + j = j by omega, Tree.dl_get hj]; rfl
 · rw [List.getElem?_append_right (by rw [dl_len]; omega), dl_len, show 32 * 1 + j - 32 = j by omega, Tree.dl_get hj]; rfl
theorem dg_bare {m : Nat} (hm : m < 127) : dg bF (fun _ => z64) m = (bare (if m < 63 then high m else 0)).2 := by
 unfold dg
 by_cases h : m < 63
 · rw [if_pos h, if_pos h]; exact bare_2 (high_pos h)
 · rw [if_neg h, if_neg h, bare_0]
theorem ti_bare {r : RigP} {d : Int} (hd : d = 0 ∨ d = 1) (h : ∀ j, 161 ≤ j → j < 288 → nw_ r d j = if j < 224 then (bare (high (j - 161))).1 else (bare 0).1) : TI r ⟨d, (bare 6).2, [], []⟩ bF (fun _ => z64) := by
 refine ⟨hd, fun n _ => bare_size _, fun n _ => z64_size, ?_, fun n s hn hs => ?_, fun n s _ hg => (by cases hg), fun n hn _ => ?_, fun n s _ hg => (by cases hg), fun n hn _ => ?_⟩
 · show (bare 6).2 = D (p1 (bF 0))
   unfold bF
   rw [bare_2 (high_pos (by omega)), show high 0 = 6 from rfl]
 · rw [dg_bare (by omega)]
   unfold bF
   by_cases hm : 2 * n + 1 + s < 63
   · rw [if_pos hm, high_kid hs hm, bare_s]
     exact split_dup _ hs
   · rw [if_neg hm, high_last hn (by omega), bare_s]
     exact split_dup _ hs
 · have := h (161 + n) (by omega) (by omega)
   rw [if_pos (by omega), show 161 + n - 161 = n by omega] at this
   exact this
 · have := h (224 + n) (by omega) (by omega)
   rw [if_neg (by omega), bare_0] at this
   exact this
theorem fm_nw (r : RigP) (super : ByteArray) {d : Int} (hd : d = 0 ∨ d = 1) (j : Nat) (h1 : 161 ≤ j) (h2 : j < 288) : nw_ (fmR r super) d j = if j < 224 then (bare (high (j - 161))).1 else (bare 0).1 := by
 unfold fmR
 rw [nw_sr, nw_fl _ _ _ _ (.inr rfl) hd, nw_fl _ _ _ _ (.inl rfl) hd, nw_fr _ 1 (by omega) d hd j ⟨h1, h2⟩]
 rcases hd with rfl | rfl
 · rw [if_neg (by decide), nw_fr _ 0 (by omega) 0 (.inl rfl) j ⟨h1, h2⟩, if_pos (by rfl)]
 · rw [if_pos (by rfl)]
theorem wi_new {a : RigA} {A : StoA} {on : Nat} {r : RigP} {o : Orc} {V : StoV} {super : ByteArray} {g0 g1 g2 : Int} {k : Nat → Int} (hf : Fine r) (hok : SOk ⟨A, V⟩ a.rn on) (hV : V = fmV0 a.rn on g0 g1 g2 super) (ho : o.on = on) (hg : 1 ≤ g2 ∧ g2 ≤ 1099511627776) (hk : ∀ i, by8 (k i)) :
 WI a A on ⟨fmR r super, o, V, ⟨k, ⟨0, 0, g2⟩, 0⟩⟩ (fun _ => z64) (fun _ => z64) 0 o.ts.length := by
 subst hV
 refine ⟨hok, ho, ⟨bF, ti_bare (.inl rfl) (fm_nw r super (.inl rfl))⟩, ⟨bF, ti_bare (.inr rfl) (fm_nw r super (.inr rfl))⟩, rfl, rfl, Nat.le_refl _, Nat.le_refl _, Nat.le_refl _, ⟨⟨Int.le_refl _, Int.le_refl _, by show 0 ≤ g2; omega, hg.2⟩, rfl, fmV_ok super, fine_fm hf super, rfl, rfl⟩, hk, ⟨Int.le_refl _, Int.le_refl _⟩⟩
end Wld
namespace Cmt
open Go Ev Sha Aes Orc Node Rec Chn Jrn Cau Sto Srt Stg Wld
open Rig (Fnc_takeR RigP Rg rgM readR writeR flushR setRegR z64 app_of tick comes mayE RigA)
open Tree (TreP TreA Tre treM TI Same getS setS updB ShJ)
structure Ste (r : RigP) (x : RigP × Int) : Prop where
 e : x.2 = 0
 fine : Fine x.1
 nw : ∀ d, d = 0 ∨ d = 1 → ∀ j, 161 ≤ j → nw_ x.1 d j = nw_ r d j
theorem ste_write {r : RigP} (h : Fine r) {d : Int} (hd : d = 0 ∨ d = 1) {i : Nat} (hi : i < 161) {s : ByteArray} (hs : s.size = 64) : Ste r (writeR r d i s) := by
 rw [h.write hd (by omega) hs]
 exact ⟨rfl, h.wrF _ _ _, fun d' hd' j hj => by rw [nw_wr r d d' i j s hd hd', if_neg (by omega)]⟩
theorem flush_eq {r : RigP} (h : Fine r) {d : Int} (hd : d = 0 ∨ d = 1) : flushR r d = (flF r d, 0) := by
 unfold flushR; rw [mayE_ok hd (by omega) (by omega), if_neg (by simp), h.tick]; rfl
theorem ste_flush {r : RigP} (h : Fine r) {d : Int} (hd : d = 0 ∨ d = 1) : Ste r (flushR r d) := by
 rw [flush_eq h hd]
 exact ⟨rfl, fine_fl h _, fun d' hd' j _ => nw_fl r d d' j hd hd'⟩
theorem ste_lp {f : Nat → RigP → RigP × Int} : ∀ (n i : Nat) (r : RigP), Fine r → (∀ k r, Fine r → i ≤ k → k < i + n → Ste r (f k r)) → Ste r (lp f n i r)
 | 0, i, r, h, _ => ⟨rfl, h, fun _ _ _ _ => rfl⟩
 | n + 1, i, r, h, hf => by
   have h1 := hf i r h (Nat.le_refl _) (by omega)
   rw [lp_ok h1.e]
   have h2 := ste_lp n (i + 1) (f i r).1 h1.fine fun k r' hr hk hk2 => hf k r' hr (by omega) (by omega)
   exact ⟨h2.e, h2.fine, fun d hd j hj => (h2.nw d hd j hj).trans (h1.nw d hd j hj)⟩
theorem ste_wrA {r : RigP} (h : Fine r) {d : Int} (hd : d = 0 ∨ d = 1) {at_ : Nat} {l : List ByteArray} (hl : at_ + l.length ≤ 161) (hs : ∀ s ∈ l, s.size = 64) : Ste r (wrA r d at_ l) := by
 unfold wrA
 refine ste_lp _ _ _ h fun k r' hr _ hk => ?_
 unfold wrL
 have hk' : k < l.length := by omega
 rw [List.getElem?_eq_getElem hk']
 exact ste_write hr hd (by omega) (hs _ (List.getElem_mem hk'))
theorem ste_fl {r : RigP} (h : Fine r) {l : List Nat} (hl : ∀ d ∈ l, d ≤ 1) : Ste r (lp (flG l) l.length 0 r) := by
 refine ste_lp _ _ _ h fun k r' hr _ hk => ?_
 unfold flG
 have hk' : k < l.length := by omega
 rw [List.getElem?_eq_getElem hk']
 have := hl _ (List.getElem_mem hk')
 exact ste_flush hr (by simp only [Option.getD_some]; omega)
theorem getS_mem {k : Int} {s : ByteArray} : ∀ {l : List (Int × ByteArray)}, (l.map (·.1)).Nodup → (getS l k = some s ↔ (k, s) ∈ l)
 | [], _ => by unfold getS; simp
 | (a, u) :: t, h => by
   have h' := List.nodup_cons.1 (show (a :: t.map (·.1)).Nodup from h)
   unfold getS
   by_cases e : k = a
   · subst e
     rw [if_pos rfl, List.mem_cons]
     constructor
     · intro h; injection h with h; subst h; exact .inl rfl
     · rintro (h | h)
       · injection h with _ h; rw [h]
       · exact absurd (List.mem_map_of_mem (f := (·.1)) h) h'.1
   · rw [if_neg e, getS_mem h'.2, List.mem_cons]
     constructor
     · exact .inr
     · rintro (h | h)
       · injection h with h _; exact absurd h e
       · exact h
theorem getS_perm {l m : List (Int × ByteArray)} (hp : l.Perm m) (hn : (l.map (·.1)).Nodup) (k : Int) : getS l k = getS m k := by
 have hm : (m.map (·.1)).Nodup := (hp.map (·.1)).nodup_iff.1 hn
 cases e : getS l k with
 | some s => exact ((getS_mem hm).2 (hp.mem_iff.1 ((getS_mem hn).1 e))).symm
 | none =>
   cases e2 : getS m k with
   | none => rfl
   | some s =>
     have := (getS_mem hn).2 (hp.mem_iff.2 ((getS_mem hm).1 e2))
     rw [e] at this; cases this
structure Hm (r : RigP) (d : Int) (l : List (Int × ByteArray)) (x : RigP × Int) : Prop where
 e : x.2 = 0
 fine : Fine x.1
 on : ∀ j : Nat, 161 ≤ j → nw_ x.1 d j = (getS l j).getD (nw_ r d j)
 off : ∀ d', (d' = 0 ∨ d' = 1) → d' ≠ d → ∀ j, nw_ x.1 d' j = nw_ r d' j
theorem hm_lp {d : Int} (hd : d = 0 ∨ d = 1) (L : List (Int × ByteArray)) : ∀ (n i : Nat) (l : List (Int × ByteArray)) (r : RigP), Fine r → L.drop i = l → l.length = n → (l.map (·.1)).Nodup → (∀ p ∈ l, 161 ≤ p.1 ∧ p.1 < 288 ∧ p.2.size = 64) → Hm r d l (lp (hmS d L) n i r)
 | 0, i, l, r, h, hL, hl, _, _ => by
   have : l = [] := List.length_eq_zero_iff.1 hl
   subst this
   exact ⟨rfl, h, fun j _ => rfl, fun _ _ _ _ => rfl⟩
 | n + 1, i, [], r, h, hL, hl, _, _ => by cases hl
 | n + 1, i, p :: t, r, h, hL, hl, hn, hk => by
   have hn' := List.nodup_cons.1 (show (p.1 :: t.map (·.1)).Nodup from hn)
   have hp := hk p List.mem_cons_self
   have hi : L[i]? = some p := by
    have := congrArg (·[0]?) hL
    simpa using this
   obtain ⟨k, hkk⟩ : ∃ k : Nat, p.1 = k := ⟨p.1.toNat, by omega⟩
   have hw : hmS d L i r = (wrF r d k p.2, 0) := by
    unfold hmS
    rw [hi]
    show writeR r d p.1 p.2 = _
    rw [hkk]
    exact h.write hd (by omega) hp.2.2
   rw [lp_ok (by rw [hw])]
   rw [hw]
   have hL' : L.drop (i + 1) = t := by rw [← List.drop_drop, hL]; rfl
   have ih := hm_lp hd L n (i + 1) t (wrF r d k p.2) (h.wrF _ _ _) hL' (by simpa using hl) hn'.2 fun q hq => hk q (List.mem_cons_of_mem _ hq)
   refine ⟨ih.e, ih.fine, fun j hj => ?_, fun d' hd' hne j => ?_⟩
   · rw [ih.on j hj, nw_wr r d d k j p.2 hd hd]
     show _ = (if (j : Int) = p.1 then some p.2 else getS t j).getD _
     by_cases e : (j : Int) = p.1
     · rw [if_pos e, if_pos ⟨rfl, by omega⟩]
       have : getS t j = none := by
        cases e3 : getS t j with
        | none => rfl
        | some s => exact absurd (List.mem_map_of_mem (f := (·.1)) ((getS_mem hn'.2).1 e3)) (by rw [show ((j : Int), s).1 = p.1 from e]; exact hn'.1)
       rw [this]; rfl
     · rw [if_neg e, if_neg (by omega)]
   · rw [ih.off d' hd' hne j, nw_wr r d d' k j p.2 hd hd', if_neg (fun h => hne h.1)]
theorem hm_ok {r : RigP} (h : Fine r) {d : Int} (hd : d = 0 ∨ d = 1) {l : List (Int × ByteArray)} (hn : (l.map (·.1)).Nodup) (hk : ∀ p ∈ l, 161 ≤ p.1 ∧ p.1 < 288 ∧ p.2.size = 64) : Hm r d l (hmG r d l) := by
 unfold hmG
 have hp := srt_perm l
 have h1 := hm_lp hd (srt l) l.length 0 (srt l) r h rfl hp.length_eq ((hp.map (·.1)).nodup_iff.2 hn) fun p hm => hk p (hp.mem_iff.1 hm)
 exact ⟨h1.e, h1.fine, fun j hj => by rw [h1.on j hj, getS_perm hp ((hp.map (·.1)).nodup_iff.2 hn)], h1.off⟩
end Cmt
end Go.Proofs.YtkjamonkohpcnaaGreat
