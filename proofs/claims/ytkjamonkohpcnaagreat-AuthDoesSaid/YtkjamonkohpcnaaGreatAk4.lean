/- Texts of this proof, merged. -/
import Derived.Test.YtkjamonkohpcnaaGreatAk3
import Derived.Lib.AppendStr
import Derived.Laws.IdiomStrings
import Derived.ChangeSlices
import Derived.Deep.SlicePairs
import Derived.DeepKeys
import Derived.OpenShut
import Derived.WideShapes
set_option linter.unusedVariables false
set_option linter.unusedSimpArgs false
set_option linter.unusedSectionVars false
set_option maxRecDepth 100000
set_option maxHeartbeats 16000000
namespace Go.Proofs.YtkjamonkohpcnaaGreat
namespace Ev
open Go
open Go.Lib (strCells run_append_room_string run_append_grow_string)
def u8s (l : List UInt8) : List Value := l.map fun b => .int .u8 b.toNat
@[simp] theorem u8s_length (l : List UInt8) : (u8s l).length = l.length := by simp [u8s]
theorem u8s_append (a b : List UInt8) : u8s (a ++ b) = u8s a ++ u8s b := by simp [u8s]
theorem u8s_get {l : List UInt8} {j : Nat} (h : j < l.length) : (u8s l)[j]? = some (.int .u8 l[j].toNat) := by simp [u8s, h]
theorem strCells_eq (s : ByteArray) : strCells s = u8s s.data.toList := by simp [strCells, u8s]
def str (l : List UInt8) : ByteArray := ⟨l.toArray⟩
@[simp] theorem str_size (l : List UInt8) : (str l).size = l.length := rfl
@[simp] theorem str_data (l : List UInt8) : (str l).data.toList = l := rfl
theorem str_eta (s : ByteArray) : str s.data.toList = s := by cases s; rfl
theorem str_append (a b : List UInt8) : str a ++ str b = str (a ++ b) := by
 apply ByteArray.ext
 simp [str, ByteArray.data_append]
theorem str_inj {a b : List UInt8} : str a = str b ↔ a = b := by
 constructor
 · intro h
   have := congrArg (fun s : ByteArray => s.data.toList) h
   simpa using this
 · rintro rfl; rfl
inductive Own where
 | nil
 | at_ (g cap : Nat) (junk : List Value)
def Own.p : Own → Option Addr
 | .nil => none
 | .at_ g _ _ => some ⟨g, 0, none⟩
def Own.c : Own → Nat
 | .nil => 0
 | .at_ _ cap _ => cap
abbrev Own.val (S : Own) (n : Nat) : Value := .slice S.p n S.c
def Own.blk (S : Own) (e : TypeId) (xs : List Value) : List Blk :=
 match S with
 | .nil => []
 | .at_ g _ junk => [⟨g, .row (xs ++ junk) e⟩]
def Own.ok (S : Own) (size n : Nat) (xs : List Value) : Prop :=
 xs.length = n * size ∧ match S with
 | .nil => n = 0
 | .at_ _ cap junk => n ≤ cap ∧ (xs ++ junk).length = cap * size
class ZipO (M : List Blk) (S : Own) (e : TypeId) (xs : List Value) (f : outParam (List Blk → List Blk)) : Prop where
 out : ∃ L R, M = L ++ (S.blk e xs ++ R) ∧ ∀ l, f l = L ++ (l ++ R)
instance (priority := high) ZipO.here {M : List Blk} {S : Own} {e : TypeId} {xs : List Value} : ZipO (S.blk e xs ++ M) S e xs (fun l => l ++ M) := ⟨⟨[], M, rfl, fun _ => rfl⟩⟩
instance (priority := high) ZipO.last {S : Own} {e : TypeId} {xs : List Value} : ZipO (S.blk e xs) S e xs (fun l => l) := ⟨⟨[], [], by simp, fun _ => by simp⟩⟩
instance (priority := low) ZipO.there {M : List Blk} {S : Own} {e : TypeId} {xs : List Value} {f : List Blk → List Blk} {c : Blk} [h : ZipO M S e xs f] : ZipO (c :: M) S e xs (fun l => c :: f l) :=
 ⟨let ⟨L, R, h1, h2⟩ := h.out; ⟨c :: L, R, by rw [h1]; rfl, fun b => by rw [h2]; rfl⟩⟩
instance (priority := low) ZipO.app {K M : List Blk} {S : Own} {e : TypeId} {xs : List Value} {f : List Blk → List Blk} [h : ZipO M S e xs f] : ZipO (K ++ M) S e xs (fun l => K ++ f l) :=
 ⟨let ⟨L, R, h1, h2⟩ := h.out; ⟨K ++ L, R, by rw [h1]; simp, fun b => by rw [h2]; simp⟩⟩
section
variable {P : Program} {M : List Blk} {k : Kv} {pan : Kp}
theorem St.drop_mid {A L K R : List Blk} {w0 w : World} (h : St A w0 w (L ++ (K ++ R))) : St A w0 w (L ++ R) := by
 refine ⟨h.os, h.tape, h.output, h.size, h.keep, fun b hb => h.has b ?_, fun b hb => h.own b ?_, ?_⟩
 · rcases List.mem_append.1 hb with hb | hb <;> simp [hb]
 · rcases List.mem_append.1 hb with hb | hb <;> simp [hb]
 · exact h.apart.sublist (List.Sublist.append (List.Sublist.refl L) (List.sublist_append_right K R))
theorem mk_row {t e : TypeId} {i : TypeInfo} {z : Value} {kd kd' : IntKind} {l c : Int} (ht : P.underlying t = some (.slice e)) (hi : P.info? e = some i) (hz : i.zero = some z) (hs : i.size = 1) (hzc : z.cells = #[z])
 (hl : 0 ≤ l ∧ l ≤ c) (hc : c ≤ 9223372036854775807) (hb : (i.bytes : Int) * c ≤ 281474976710656)
 (h : ∀ n : Nat, k (.slice (some ⟨n, 0, none⟩) l.toNat c.toNat) (⟨n, .row (List.replicate c.toNat z) e⟩ :: M)) : Runs P (VS (Instr.makeSlice t (.int kd l) (.int kd' c))) M k pan := by
 refine ⟨fun A w0 w st => ?_⟩
 have e1 : IntKind.i64.wrap l = l := w64 (by omega) (by omega)
 have e2 : IntKind.i64.wrap c = c := w64 (by omega) (by omega)
 have g1 : ¬ (i.bytes : Int) * c > 2 ^ 48 := by omega
 have g2 : ¬ (i.bytes : Int) * l > 2 ^ 48 := by
  have := Int.mul_le_mul_of_nonneg_left hl.2 (Int.natCast_nonneg i.bytes)
  omega
 have g3 : ¬ l < 0 := by omega
 have g4 : ¬ l > c := by omega
 have g5 : ¬ c < 0 := by omega
 have hrow : ((Array.range (c.toNat * 1)).map fun j => (if c.toNat * 1 = 0 then #[] else z.cells)[j % (if c.toNat * 1 = 0 then #[] else z.cells).size]!) = (List.replicate c.toNat z).toArray := by
  apply Array.ext
  · simp
  · intro j h1 h2
    have hne : ¬ c.toNat * 1 = 0 := by simp at h1; omega
    have hm1 : j % 1 = 0 := Nat.mod_one j
    simp only [if_neg hne, hzc, Array.getElem_map, Array.getElem_range, List.getElem_toArray, List.getElem_replicate]
    simp [hm1]
 have hrun : (VS (Instr.makeSlice t (.int kd l) (.int kd' c))).run P w = .ok (.value (.slice (some ⟨w.heap.size, 0, none⟩) l.toNat c.toNat)) { w with heap := w.heap.push (.cells (List.replicate c.toNat z).toArray e) } := by
  simp only [VS, Instr.makeSlice, Sem.run_bind, run_underlying ht, Result.andThen_ok, asInt, asIntOf, Sem.run_pure, typeInfo, run_program, hi, e1, e2]
  have ht1 : (decide (c < 0) || decide ((i.bytes : Int) * c > 2 ^ 48)) = false := by simp only [decide_eq_false g5, decide_eq_false g1]; rfl
  simp only [ht1, decide_eq_false g3, decide_eq_false g4, Bool.or_false, Bool.false_eq_true, if_false, Sem.run_bind, run_askRoom, Result.andThen_ok, run_sizeOf_eq hi, hs]
  by_cases hq : c.toNat * 1 = 0
  · simp only [if_pos hq] at hrow ⊢
    simp only [Sem.run_bind, newRow, run_newObj, Sem.run_pure, Result.andThen_ok, hrow]
  · simp only [if_neg hq] at hrow ⊢
    simp only [Sem.run_bind, zeroValue, typeInfo, run_program, hi, hz, newRow, run_newObj, Sem.run_pure, Result.andThen_ok, hrow]
 rw [hrun]
 exact ⟨_, st.new _ (.row (List.replicate c.toNat z) e) (by simp [Blk.holds]), h _⟩
theorem b2s {src dst e : TypeId} {n off len cap : Nat} {l : List UInt8} (hs : P.underlying src = some (.slice e)) (he : P.underlying e = some (.int .u8)) (hd : P.underlying dst = some .string) (hlen : len = l.length)
 (hc : ∀ A w0 w, St A w0 w M → ∀ j (hj : j < l.length), w.cell? ⟨n, off + j, none⟩ = some (.int .u8 (l[j].toNat : Int))) (h : k (.string (str l)) M) :
 Runs P (VS (convert src dst (.slice (some ⟨n, off, none⟩) len cap))) M k pan := by
 refine ⟨fun A w0 w st => ?_⟩
 have hr := run_convert_bytes_back (P := P) w src dst e ⟨n, off, none⟩ cap l hs he hd (fun j hj => by rw [add_none]; exact hc A w0 w st j hj)
 have : (VS (convert src dst (.slice (some ⟨n, off, none⟩) len cap))).run P w = .ok (.value (.string (str l))) w := by
  simp only [VS, Sem.run_bind, hlen, hr, Result.andThen_ok, Sem.run_pure]
  rfl
 rw [this]
 exact ⟨M, st, h⟩
theorem b2s_row {src dst e t : TypeId} {n len cap : Nat} {l : List UInt8} {junk cs : List Value} [hk : Look M n (.row cs t)] (hcs : cs = u8s l ++ junk) (hs : P.underlying src = some (.slice e)) (he : P.underlying e = some (.int .u8)) (hd : P.underlying dst = some .string)
 (hlen : len = l.length) (h : k (.string (str l)) M) : Runs P (VS (convert src dst (.slice (some ⟨n, 0, none⟩) len cap))) M k pan := by
 refine b2s hs he hd hlen (fun A w0 w st j hj => ?_) h
 have := st.has _ hk.mem
 simp only [Blk.holds] at this
 have h2 := u8s_get hj
 simp only [World.cell?, this, Nat.zero_add]
 rw [List.getElem?_toArray, hcs, List.getElem?_append_left (by simpa using hj)]
 exact h2
theorem b2s_lit {src dst e t : TypeId} {n len cap : Nat} {l : List UInt8} {junk cs : List Value} [hk : Look M n (.cells cs t)] (hcs : cs = u8s l ++ junk) (hs : P.underlying src = some (.slice e)) (he : P.underlying e = some (.int .u8)) (hd : P.underlying dst = some .string)
 (hlen : len = l.length) (h : k (.string (str l)) M) : Runs P (VS (convert src dst (.slice (some ⟨n, 0, none⟩) len cap))) M k pan := by
 refine b2s hs he hd hlen (fun A w0 w st j hj => ?_) h
 have := st.has _ hk.mem
 simp only [Blk.holds] at this
 have h2 := u8s_get hj
 simp only [World.cell?, this, Nat.zero_add]
 rw [List.getElem?_toArray, hcs, List.getElem?_append_left (by simpa using hj)]
 exact h2
theorem cells_at {n : Nat} {cs : List Value} {t : TypeId} [hk : Look M n (.cells cs t)] : ∀ (A : List Blk) (w0 w : World), St A w0 w M → ∀ (j : Nat) (v : Value), cs[j]? = some v → w.cell? ⟨n, j, none⟩ = some v := by
 intro A w0 w st j v hj
 have := st.has _ hk.mem
 simp only [Blk.holds] at this
 simp only [World.cell?, this]
 rw [List.getElem?_toArray]
 exact hj
theorem b2s_nil {src dst e : TypeId} {len cap : Nat} (hs : P.underlying src = some (.slice e)) (he : P.underlying e = some (.int .u8)) (hd : P.underlying dst = some .string)
 (h : k (.string (str [])) M) : Runs P (VS (convert src dst (.slice none len cap))) M k pan := by
 refine Runs.val (v := .string (str [])) (fun w => ?_) h
 simp only [VS, Sem.run_bind, run_convert_bytes_string w src dst e none len cap hs he hd]
 rfl
theorem b2s_own {src dst e t : TypeId} {S : Own} {n : Nat} {l : List UInt8} {f : List Blk → List Blk} [hz : ZipO M S t (u8s l) f] (hok : S.ok 1 n (u8s l)) (hs : P.underlying src = some (.slice e)) (he : P.underlying e = some (.int .u8)) (hd : P.underlying dst = some .string)
 (h : k (.string (str l)) M) : Runs P (VS (convert src dst (S.val n))) M k pan := by
 obtain ⟨L, R, e1, e2⟩ := hz.out
 have hn : n = l.length := by have := hok.1; simp at this; omega
 cases S with
 | nil =>
   have h0 : l.length = 0 := by have := hok.2; simp only at this; omega
   have : l = [] := List.eq_nil_of_length_eq_zero h0
   subst this
   exact b2s_nil hs he hd h
 | at_ g cap junk =>
   have : Look M g (.row (u8s l ++ junk) t) := ⟨by rw [e1]; simp [Own.blk]⟩
   exact b2s_row (junk := junk) rfl hs he hd hn h
theorem zero1 (z : Value) (hz : z.cells = #[z]) (n : Nat) : Builtin.zeroCells z.cells n = (List.replicate n z).toArray := by
 unfold Builtin.zeroCells
 rw [hz]
 apply Array.ext
 · simp
 · intro j h1 h2; simp [Nat.mod_one]
theorem app_core {S : Own} {e : TypeId} {xs news : List Value} {n m : Nat} {f : List Blk → List Blk} {z : Value} {i : TypeInfo} [hz : ZipO M S e xs f] {s : Sem Value} (hzc : z.cells = #[z]) (hs1 : i.size = 1) (hl : news.length = m)
 (hok : S.ok 1 n xs)
 (hnil : S = .nil → 0 < m → ∀ A w0 w, St A w0 w M → s.run P w = .ok (.slice (some ⟨w.heap.size, 0, none⟩) m (grownCap w m 0 e)) (w.drew.alloc (.cells (news.toArray ++ Builtin.zeroCells z.cells (grownCap w m 0 e - m)) e)))
 (hnil0 : S = .nil → m = 0 → ∀ w, s.run P w = .ok (.slice none 0 0) w)
 (hroom : ∀ g cap junk, S = .at_ g cap junk → n + m ≤ cap → ∀ A w0 w, St A w0 w M → w.heap[g]? = some (.cells (xs ++ junk).toArray e (0, 0)) →
   s.run P w = .ok (.slice (some ⟨g, 0, none⟩) (n + m) cap) (w.setRow g ((xs ++ junk).take n ++ news ++ (xs ++ junk).drop (n + m)).toArray))
 (hgrow : ∀ g cap junk, S = .at_ g cap junk → cap < n + m → ∀ A w0 w, St A w0 w M → (∀ j v, xs[j]? = some v → w.cell? ⟨g, j, none⟩ = some v) →
   s.run P w = .ok (.slice (some ⟨w.heap.size, 0, none⟩) (n + m) (grownCap w (n + m) cap e)) (w.drew.alloc (.cells (xs.toArray ++ news.toArray ++ Builtin.zeroCells z.cells (grownCap w (n + m) cap e - (n + m))) e)))
 (h : ∀ S' : Own, S'.ok 1 (n + m) (xs ++ news) → k (S'.val (n + m)) (f (S'.blk e (xs ++ news)))) : Runs P (VS s) M k pan := by
 obtain ⟨L, R, e1, e2⟩ := hz.out
 have hxl : xs.length = n := by have := hok.1; omega
 refine ⟨fun A w0 w st => ?_⟩
 have new : ∀ (cs : List Value) (cap : Nat), s.run P w = .ok (.slice (some ⟨w.heap.size, 0, none⟩) (n + m) cap) (w.drew.alloc (.cells (xs ++ news ++ cs).toArray e)) → n + m ≤ cap → (xs ++ news ++ cs).length = cap →
  PostN P (fun v w' => ∃ M', St A w0 w' M' ∧ k v M') (fun ch w' => ∃ M', St A w0 w' M' ∧ pan ch M') ((VS s).run P w) := by
  intro cs cap hr hle hcl
  have : (VS s).run P w = .ok (.value (.slice (some ⟨w.heap.size, 0, none⟩) (n + m) cap)) (w.drew.alloc (.cells (xs ++ news ++ cs).toArray e)) := by
   simp only [VS, Sem.run_bind, hr, Result.andThen_ok, Sem.run_pure]
  rw [this]
  have st1 := (st.drew (w.drawn + 1)).new (.cells (xs ++ news ++ cs).toArray e) (.row (xs ++ news ++ cs) e) (by simp [Blk.holds])
  rw [e1] at st1
  have st2 := St.drop_mid (L := (⟨w.heap.size, .row (xs ++ news ++ cs) e⟩ : Blk) :: L) (K := S.blk e xs) (R := R) st1
  refine ⟨_, ?_, h (.at_ w.heap.size cap cs) ⟨by simp; omega, hle, by simpa using hcl⟩⟩
  rw [e2]
  refine st2.perm ?_
  simp only [Own.blk, List.cons_append, List.nil_append]
  exact (List.perm_middle).symm
 cases S with
 | nil =>
   have hn0 : n = 0 := hok.2
   have hx0 : xs = [] := List.eq_nil_of_length_eq_zero (by omega)
   subst hn0; subst hx0
   by_cases hm : m = 0
   · have hr := hnil0 rfl hm w
     have hn : news = [] := List.eq_nil_of_length_eq_zero (by omega)
     have : (VS s).run P w = .ok (.value (.slice none 0 0)) w := by simp only [VS, Sem.run_bind, hr, Result.andThen_ok, Sem.run_pure]
     rw [this]
     refine ⟨M, st, ?_⟩
     have := h .nil ⟨by simp; omega, by omega⟩
     rw [e2] at this
     subst hn hm
     simp only [Own.blk, List.nil_append] at this e1
     rw [e1]
     exact this
   · have hr := hnil rfl (by omega) A w0 w st
     have hge := grownCap_ge w m 0 e
     rw [zero1 z hzc] at hr
     refine new (List.replicate (grownCap w m 0 e - m) z) (grownCap w m 0 e) (by
      have ea : news.toArray ++ (List.replicate (grownCap w m 0 e - m) z).toArray = ([] ++ news ++ List.replicate (grownCap w m 0 e - m) z).toArray := by apply Array.ext'; simp
      rw [hr, ea]; simp only [Nat.zero_add]) (by omega) (by simp; omega)
 | at_ g cap junk =>
   obtain ⟨h1, h2⟩ := hok.2
   have hg : w.heap[g]? = some (.cells (xs ++ junk).toArray e (0, 0)) := by
    have := st.has ⟨g, .row (xs ++ junk) e⟩ (by rw [e1]; simp [Own.blk])
    exact this
   by_cases hr : n + m ≤ cap
   · have hrun := hroom g cap junk rfl hr A w0 w st hg
     have : (VS s).run P w = .ok (.value (.slice (some ⟨g, 0, none⟩) (n + m) cap)) (w.setRow g ((xs ++ junk).take n ++ news ++ (xs ++ junk).drop (n + m)).toArray) := by
      simp only [VS, Sem.run_bind, hrun, Result.andThen_ok, Sem.run_pure]
     rw [this]
     have et : (xs ++ junk).take n ++ news ++ (xs ++ junk).drop (n + m) = xs ++ news ++ junk.drop m := by
      rw [List.take_append_of_le_length (by omega), List.take_of_length_le (by omega), List.drop_append, List.drop_of_length_le (by omega)]
      simp [hxl]
     rw [et]
     have hu : Upd M g (.row (xs ++ junk) e) (.row (xs ++ news ++ junk.drop m) e) (L ++ (⟨g, .row (xs ++ news ++ junk.drop m) e⟩ :: R)) := ⟨⟨L, R, by rw [e1]; rfl, rfl⟩⟩
     refine ⟨_, ?_, h (.at_ g cap (junk.drop m)) ⟨by simp; omega, hr, ?_⟩⟩
     · rw [e2]
       exact setRow_st st hu (.inr rfl) (.inr rfl)
     · simp at h2 ⊢; omega
   · have hrun := hgrow g cap junk rfl (by omega) A w0 w st (fun j v hj => by
      have hj' := (List.getElem?_eq_some_iff.1 hj).1
      simp only [World.cell?, hg]
      rw [List.getElem?_toArray, List.getElem?_append_left hj']
      exact hj)
     have hge := grownCap_ge w (n + m) cap e
     rw [zero1 z hzc] at hrun
     refine new (List.replicate (grownCap w (n + m) cap e - (n + m)) z) (grownCap w (n + m) cap e) (by
      have ea : xs.toArray ++ news.toArray ++ (List.replicate (grownCap w (n + m) cap e - (n + m)) z).toArray = (xs ++ news ++ List.replicate (grownCap w (n + m) cap e - (n + m)) z).toArray := by apply Array.ext'; simp
      rw [hrun, ea]) (by omega) (by simp; omega)
theorem app_str {S : Own} {t u ty e : TypeId} {xs : List Value} {n : Nat} {f : List Blk → List Blk} {i : TypeInfo} {s : ByteArray} [hz : ZipO M S e xs f] (ht : P.underlying t = some (.slice e)) (hu : P.underlying u = some .string)
 (hi : P.info? e = some i) (hzv : i.zero = some (.int .u8 0)) (hs1 : i.size = 1) (hby : i.bytes = 1) (hok : S.ok 1 n xs) (hb : n + s.size ≤ 140737488355328)
 (h : ∀ S' : Own, S'.ok 1 (n + s.size) (xs ++ u8s s.data.toList) → k (S'.val (n + s.size)) (f (S'.blk e (xs ++ u8s s.data.toList)))) :
 Runs P (VS (Builtin.append_ #[t, u] ty #[S.val n, .string s])) M k pan := by
 have hxl : xs.length = n := by have := hok.1; omega
 refine app_core (z := .int .u8 0) (i := i) rfl hs1 (by simp [u8s]) hok ?_ ?_ ?_ ?_ h
 · intro hS hm A w0 w st
   subst hS
   have := run_append_nil_string (P := P) w t u ty e i (.int .u8 0) ht hu hi hzv s hm (by omega) (by rw [hby]; omega)
   rw [← strCells_eq]
   have hn0 : n = 0 := hok.2
   subst hn0
   refine Eq.trans this ?_
   congr 4
   apply Array.ext'
   simp [strCells]
 · intro hS hm w
   subst hS
   have : s.size = 0 := hm
   have hn0 : n = 0 := hok.2
   subst hn0
   simp [Own.p, Own.c, Builtin.append_, run_underlying ht, run_underlying hu, sizeOf, typeInfo, hi, Builtin.lenOf, this, Builtin.firstCells]
 · intro g cap junk hS hr A w0 w st hg
   subst hS
   have := run_append_room_string (P := P) w t u ty e i ht hu hi hs1 g n cap (xs ++ junk).toArray hg s hr (by have := hok.2.2; simp at this ⊢; omega)
   refine Eq.trans this ?_
   rw [strCells_eq]
 · intro g cap junk hS hr A w0 w st hc
   subst hS
   have := run_append_grow_string (P := P) w t u ty e i (.int .u8 0) ht hu hi hzv ⟨g, 0, none⟩ n cap xs (by rw [hs1]; omega) (fun j v hj => by rw [add_none, Nat.zero_add]; exact hc j v hj) s (by omega) (by omega) (growslice_fits (by omega) (by rw [hby]; omega))
   refine Eq.trans this ?_
   rw [strCells_eq]
theorem app_cells {S : Own} {t ty e : TypeId} {xs news : List Value} {n m g' c : Nat} {f : List Blk → List Blk} {i : TypeInfo} {z : Value} [hz : ZipO M S e xs f] (ht : P.underlying t = some (.slice e))
 (hi : P.info? e = some i) (hzv : i.zero = some z) (hzc : z.cells = #[z]) (hs1 : i.size = 1) (hok : S.ok 1 n xs) (hl : news.length = m) (h1 : ∀ u ∈ news, u.oneCell' = true) (hb : (n + m) * i.bytes ≤ 140737488355328) (hb2 : n + m ≤ 9223372036854775807)
 (hc : ∀ A w0 w, St A w0 w M → ∀ j v, news[j]? = some v → w.cell? ⟨g', j, none⟩ = some v)
 (h : ∀ S' : Own, S'.ok 1 (n + m) (xs ++ news) → k (S'.val (n + m)) (f (S'.blk e (xs ++ news)))) :
 Runs P (VS (Builtin.append_ #[t, t] ty #[S.val n, .slice (some ⟨g', 0, none⟩) m c])) M k pan := by
 have hxl : xs.length = n := by have := hok.1; omega
 refine app_core (z := z) (i := i) hzc hs1 hl hok ?_ ?_ ?_ ?_ h
 · intro hS hm A w0 w st
   subst hS
   have hn0 : n = 0 := hok.2
   subst hn0
   exact run_append_nil (P := P) w t ty e i z ht hi hzv ⟨g', 0, none⟩ m c news (by rw [hs1]; omega) (fun j v hj => by rw [add_none, Nat.zero_add]; exact hc A w0 w st j v hj) hm (by omega) (by simp only [Nat.zero_add] at hb; omega)
 · intro hS hm w
   subst hS
   have hn0 : n = 0 := hok.2
   subst hm
   simp [hn0, Own.p, Own.c, Builtin.append_, run_underlying ht, sizeOf, typeInfo, hi, Builtin.lenOf, Builtin.firstCells, loadCells, loadCellsFrom]
 · intro g cap junk hS hr A w0 w st hg
   subst hS
   have := run_append_room (P := P) w t ty e i ht hi g n cap (xs ++ junk).toArray hg ⟨g', 0, none⟩ m c news (by rw [hs1]; omega) (fun j v hj => by rw [add_none, Nat.zero_add]; exact hc A w0 w st j v hj) h1 hr (by have := hok.2.2; simp [hs1] at this ⊢; omega)
   refine Eq.trans this ?_
   simp [hs1, hl]
 · intro g cap junk hS hr A w0 w st hc'
   subst hS
   have := run_append_grow (P := P) w t ty e i z ht hi hzv ⟨g, 0, none⟩ n cap xs (by rw [hs1]; omega) (fun j v hj => by rw [add_none, Nat.zero_add]; exact hc' j v hj) ⟨g', 0, none⟩ m c news (by rw [hs1]; omega) (fun j v hj => by rw [add_none, Nat.zero_add]; exact hc A w0 w st j v hj) (by omega) (by omega) (growslice_fits (by omega) hb)
   exact this
end
end Ev
namespace Ev
open Go
instance (priority := low) Look.app_left {M K : List Blk} {n : Nat} {o : BO} [h : Look M n o] : Look (M ++ K) n o := ⟨List.mem_append_left _ h.mem⟩
instance (priority := low) Look.app_right {M K : List Blk} {n : Nat} {o : BO} [h : Look M n o] : Look (K ++ M) n o := ⟨List.mem_append_right _ h.mem⟩
inductive Sl where
 | no (p : Option Addr) (c : Nat)
 | at_ (b off cap : Nat)
def Sl.p : Sl → Option Addr
 | .no p _ => p
 | .at_ b off _ => some ⟨b, off, none⟩
def Sl.c : Sl → Nat
 | .no _ c => c
 | .at_ _ _ cap => cap
abbrev Sl.val (S : Sl) (n : Nat) : Value := .slice S.p n S.c
def Sl.blk (S : Sl) (xs : List Value) : List Blk :=
 match S with
 | .no _ _ => []
 | .at_ b off _ => [⟨b, .ro off xs⟩]
def Sl.ok (S : Sl) (n : Nat) : Prop :=
 match S with
 | .no _ _ => n = 0
 | .at_ _ _ _ => True
instance Sl.look {b off cap : Nat} {xs : List Value} : Look ((Sl.at_ b off cap).blk xs) b (.ro off xs) := ⟨List.mem_cons_self⟩
theorem Sl.ro (S : Sl) (xs : List Value) : ∀ b ∈ S.blk xs, b.ro = true := by
 cases S with
 | no p c => intro b hb; cases hb
 | at_ b off cap => intro b hb; simp only [Sl.blk, List.mem_singleton] at hb; subst hb; rfl
theorem walk_ro {P : Program} {f : FuncId} {args : List Value} {A : List Blk} {v : Value} (h : Fnc P f args A (Ret v A)) (hro : ∀ b ∈ A, b.ro = true) (w : World) (hm : Mem w A) :
 Calls P f args.toArray w fun e w' => e = .returned v ∧ RowKit.Below w.heap.size w w' :=
 (h.out.2 w hm).mono fun e w' ⟨A', s1, h1, h2⟩ => ⟨h1, s1.os, s1.tape, s1.output, s1.size, fun k hk => s1.keep k hk fun b hb hb' => by rw [hro b hb] at hb'; cases hb'⟩
theorem fin_right {K M : List Blk} {Q : List Blk → Prop} (h : Fin M Q) : Fin (K ++ M) Q := by
 obtain ⟨A', R, hp, hq⟩ := h.out
 exact ⟨⟨A', K ++ R, (hp.append_left K).trans (by rw [← List.append_assoc, ← List.append_assoc]; exact List.perm_append_comm.append_right R), hq⟩⟩
end Ev
namespace Ev
open Go
theorem cell_spot {w : World} {a : Addr} {v : Value} (h : w.cell? a = some v) : a.spot = none ∧ a.block < w.heap.size := by
 unfold World.cell? at h
 split at h
 · have hb := (Array.getElem?_eq_some_iff.1 ‹_›).1
   cases hs : a.spot with
   | none => exact ⟨rfl, hb⟩
   | some s => rw [hs] at h; simp at h
 · cases h
theorem flat_get {α : Type} : ∀ {l : List (List α)} {k i j : Nat} {r : List α}, (∀ x ∈ l, x.length = k) → l[i]? = some r → j < k → l.flatten[i * k + j]? = r[j]?
 | [], k, i, j, r, _, h, _ => by simp at h
 | x :: l, k, 0, j, r, hl, h, hj => by
     have := hl x List.mem_cons_self
     simp only [List.getElem?_cons_zero, Option.some.injEq] at h
     subst h
     rw [List.flatten_cons, Nat.zero_mul, Nat.zero_add, List.getElem?_append_left (by omega)]
 | x :: l, k, i + 1, j, r, hl, h, hj => by
     have := hl x List.mem_cons_self
     rw [List.flatten_cons, List.getElem?_append_right (by rw [this, Nat.succ_mul]; omega)]
     rw [show (i + 1) * k + j - x.length = i * k + j by rw [this, Nat.succ_mul]; omega]
     exact flat_get (fun y hy => hl y (List.mem_cons_of_mem _ hy)) (by simpa using h) hj
theorem flat_split {α : Type} : ∀ {l : List (List α)} {k n : Nat} {v : α}, (∀ x ∈ l, x.length = k) → l.flatten[n]? = some v → ∃ i j r, n = i * k + j ∧ j < k ∧ l[i]? = some r ∧ r[j]? = some v
 | [], k, n, v, _, h => by simp at h
 | x :: l, k, n, v, hl, h => by
     have hx := hl x List.mem_cons_self
     rw [List.flatten_cons] at h
     by_cases hn : n < x.length
     · rw [List.getElem?_append_left hn] at h
       exact ⟨0, n, x, by omega, by omega, rfl, h⟩
     · rw [List.getElem?_append_right (by omega)] at h
       obtain ⟨i, j, r, h1, h2, h3, h4⟩ := flat_split (fun y hy => hl y (List.mem_cons_of_mem _ hy)) h
       exact ⟨i + 1, j, r, by rw [Nat.succ_mul]; omega, h2, by simpa using h3, h4⟩
theorem rows_in {H : Type} {enc : TypeId × Value → H} {P : Program} {w : World} {base : Nat} {spare : Nat → Bool} {held : Bool} {t e : TypeId} {k fuel : Nat} {cs : List Value} {x : DataW H × List MemPlace} (ht : P.underlying t = some (.slice e)) (hc : P.cellsOf e = k) (hk : 0 < k)
 (h : DataW.trod enc P w base spare held fuel t cs = some x) :
 ∃ (S : Sl) (l : List (List Value)), cs = [S.val l.length] ∧ S.ok l.length ∧ l.length ≤ maxLen ∧ (∀ r ∈ l, r.length = k ∧ ∃ n y, DataW.trod enc P w base spare held n e r = some y) ∧ Mem w (S.blk l.flatten) := by
 rcases Deep.open_slice ht h with ⟨rfl, _⟩ | ⟨a, len, cap, m, n, D, Pl, rfl, _, hl, hm, hlen, _, hcell⟩
 · exact ⟨.no none 0, [], rfl, rfl, Nat.zero_le _, by simp, fun b hb => (by cases hb), List.Pairwise.nil⟩
 · have hle : len ≤ m := by rw [hlen]; split <;> omega
   by_cases h0 : len = 0
   · subst h0
     exact ⟨.no (some a) cap, [], rfl, rfl, Nat.zero_le _, by simp, fun b hb => (by cases hb), List.Pairwise.nil⟩
   · obtain ⟨g, hg⟩ := Deep.choose_lt hcell
     have hg' : ∀ i, i < m → (g i).length = k ∧ ∀ j, j < k → w.cell? ((a.add (i * k)).add j) = (g i)[j]? := by
      intro i hi
      obtain ⟨_, h2, h3⟩ := World.cells?_some (hg i hi).1
      rw [hc] at h2 h3
      exact ⟨h2, h3⟩
     obtain ⟨hl0, hc0⟩ := hg' 0 (by omega)
     have c0 : w.cell? a = some ((g 0)[0]'(by omega)) := by
      have := hc0 0 hk
      rw [List.getElem?_eq_getElem (by omega)] at this
      simpa [Addr.add] using this
     obtain ⟨hsp, hb⟩ := cell_spot c0
     obtain ⟨b, off, spot⟩ := a
     simp only at hsp hb
     subst hsp
     refine ⟨.at_ b off cap, (List.range len).map g, by rw [List.length_map, List.length_range]; rfl, trivial, by rw [List.length_map, List.length_range]; omega, ?_, ?_, List.pairwise_singleton _ _⟩
     · intro r hr
       obtain ⟨i, hi, rfl⟩ := List.mem_map.1 hr
       have hi := List.mem_range.1 hi
       exact ⟨(hg' i (by omega)).1, n, _, (hg i (by omega)).2⟩
     · intro bb hbb
       simp only [Sl.blk, List.mem_singleton] at hbb
       subst hbb
       refine ⟨hb, fun j v hj => ?_⟩
       have hlk : ∀ y ∈ (List.range len).map g, y.length = k := by
        intro y hy
        obtain ⟨i, hi, rfl⟩ := List.mem_map.1 hy
        exact (hg' i (by have := List.mem_range.1 hi; omega)).1
       obtain ⟨i, j', r, rfl, hj', hr, hv⟩ := flat_split hlk hj
       rw [List.getElem?_map] at hr
       by_cases hi : i < len
       · rw [List.getElem?_range hi] at hr
         simp only [Option.map_some, Option.some.injEq] at hr
         subst hr
         have := (hg' i (by omega)).2 j' hj'
         rw [hv, Deep.add_add] at this
         rw [← this, add_none]
       · rw [List.getElem?_eq_none (by simpa using hi)] at hr
         cases hr
theorem list_of {α β : Type} {f : α → β} {Q : α → Prop} : ∀ {l : List β}, (∀ r ∈ l, ∃ p, r = f p ∧ Q p) → ∃ l' : List α, l = l'.map f ∧ ∀ p ∈ l', Q p
 | [], _ => ⟨[], rfl, by simp⟩
 | r :: l, h => by
     obtain ⟨p, rfl, hp⟩ := h r List.mem_cons_self
     obtain ⟨l', rfl, hl'⟩ := list_of (fun r hr => h r (List.mem_cons_of_mem _ hr))
     exact ⟨p :: l', rfl, by simpa using ⟨hp, hl'⟩⟩
end Ev
namespace Ev
open Go
inductive Kd where
 | bool
 | int (k : IntKind)
 | string
def Kd.ok : Kd → Value → Prop
 | .bool, v => ∃ b, v = .bool b
 | .int k, v => ∃ z, v = .int k z
 | .string, v => ∃ s, v = .string s
def Fits : List Kd → List Value → Prop
 | [], [] => True
 | k :: ks, v :: vs => k.ok v ∧ Fits ks vs
 | _, _ => False
theorem Fits.length : ∀ {ks : List Kd} {vs : List Value}, Fits ks vs → vs.length = ks.length
 | [], [], _ => rfl
 | _ :: _, _ :: _, h => by simp [Fits.length h.2]
 | [], _ :: _, h => h.elim
 | _ :: _, [], h => h.elim
theorem Fits.split : ∀ {ks ks' : List Kd} {vs : List Value}, Fits (ks ++ ks') vs → Fits ks (vs.take ks.length) ∧ Fits ks' (vs.drop ks.length)
 | [], ks', vs, h => ⟨by simp [Fits], by simpa using h⟩
 | _ :: _, _, [], h => h.elim
 | k :: ks, ks', v :: vs, h => by
     have := Fits.split h.2
     exact ⟨⟨h.1, this.1⟩, this.2⟩
theorem Fits.app : ∀ {ks ks' : List Kd} {vs vs' : List Value}, Fits ks vs → Fits ks' vs' → Fits (ks ++ ks') (vs ++ vs')
 | [], _, [], _, _, h => h
 | _ :: _, _, _ :: _, _, h, h' => ⟨h.1, Fits.app h.2 h'⟩
 | [], _, _ :: _, _, h, _ => h.elim
 | _ :: _, _, [], _, h, _ => h.elim
theorem Fits.chunk {ks : List Kd} : ∀ {n : Nat} {vs : List Value} {i : Nat}, Fits (List.replicate n ks).flatten vs → i < n → Fits ks ((vs.drop (i * ks.length)).take ks.length)
 | 0, _, _, _, h => by omega
 | n + 1, vs, 0, h, _ => by
     rw [List.replicate_succ, List.flatten_cons] at h
     simpa using h.split.1
 | n + 1, vs, i + 1, h, hi => by
     rw [List.replicate_succ, List.flatten_cons] at h
     have := Fits.chunk h.split.2 (i := i) (by omega)
     rw [List.drop_drop] at this
     rwa [Nat.succ_mul, Nat.add_comm]
def fieldsKinds (P : Program) (rec : TypeId → Option (List Kd)) : List Field → Nat → Option (List Kd)
 | [], _ => some []
 | f :: fs, off => if f.name ≠ "_" ∧ f.offset = off then
     (match rec f.type with
     | some ks => if P.cellsOf f.type = ks.length then (fieldsKinds P rec fs (off + ks.length)).map (ks ++ ·) else none
     | none => none) else none
def kindsOf (P : Program) : Nat → TypeId → Option (List Kd)
 | 0, _ => none
 | d + 1, t => match P.underlying t with
   | some .bool => some [.bool]
   | some (.int k) => some [.int k]
   | some .string => some [.string]
   | some (.array n e) => (match kindsOf P d e with
     | some ks => if P.cellsOf e = ks.length then some (List.replicate n ks).flatten else none
     | none => none)
   | some (.struct fs) => if P.stoodInHeld t = false then fieldsKinds P (kindsOf P d) fs.toList 0 else none
   | _ => none
def mkV (P : Program) (t : TypeId) (xs : List Value) : Value :=
 match P.underlying t with
 | some (.array _ _) => .agg xs.toArray
 | some (.struct _) => .agg xs.toArray
 | _ => xs.headD undef
section
variable {P : Program}
theorem take1 {xs zs : List Value} {off : Nat} {v : Value} (h : (xs.drop off).take 1 = [v]) : xs[off]? = some v := by
 have := congrArg (fun l => l[0]?) h
 simpa [List.getElem?_drop] using this
theorem part_fit {d : Nat} {e : TypeId} {ks : List Kd} {xs : List Value} {off : Nat} {w : World} (hk : kindsOf P d e = some ks) (hc : P.cellsOf e = ks.length) (hf : Fits ks ((xs.drop off).take ks.length)) :
 (part e xs.toArray off).run P w = .ok (mkV P e ((xs.drop off).take ks.length)) w := by
 cases d with
 | zero => cases hk
 | succ d =>
   unfold kindsOf at hk
   unfold mkV
   cases hu : P.underlying e with
   | none => simp [hu] at hk
   | some kd =>
     have leaf : ∀ (kd1 : Kd), ks = [kd1] → aggB kd = false → (part e xs.toArray off).run P w = .ok (((xs.drop off).take ks.length).headD undef) w := by
      intro kd1 hks ha
      subst hks
      cases hz : (xs.drop off).take 1 with
      | nil => simp only [List.length_singleton, hz] at hf; exact hf.elim
      | cons v t =>
        have ht : t = [] := by
         have := congrArg List.length hz
         rw [List.length_take] at this
         simp at this
         cases t with
         | nil => rfl
         | cons a b => simp at this; omega
        subst ht
        have hv := take1 (zs := []) hz
        simp only [List.length_singleton, hz, List.headD_cons]
        simp [part, run_isAgg_eq hu, ha, hv]
     have agg : aggB kd = true → (part e xs.toArray off).run P w = .ok (.agg ((xs.drop off).take ks.length).toArray) w := by
      intro ha
      obtain ⟨i, hi⟩ := info_of_underlying hu
      simp [part, run_isAgg_eq hu, ha, run_sizeOf w hi, List.extract_eq_take_drop, hc]
     cases kd <;> simp only [hu] at hk <;> first | (cases hk; done) | skip
     case bool => cases hk; exact leaf _ rfl rfl
     case int q => cases hk; exact leaf _ rfl rfl
     case string => cases hk; exact leaf _ rfl rfl
     case array n e' => exact agg rfl
     case struct fs => exact agg rfl
def EqK (P : Program) (dd : Nat) (t : TypeId) (ks : List Kd) : Prop :=
 ∀ (w : World) (xs ys : List Value), Fits ks xs → Fits ks ys → ∃ r : Bool, (Op.equalIn dd t (mkV P t xs) (mkV P t ys)).run P w = .ok r w ∧ (r = true ↔ xs = ys)
theorem items_fit {d dd : Nat} {e : TypeId} {ks : List Kd} (hk : kindsOf P d e = some ks) (hc : P.cellsOf e = ks.length) (IH : EqK P dd e ks) (w : World) (xs ys : List Value) : ∀ (is : List Nat),
 (∀ i ∈ is, Fits ks ((xs.drop (i * ks.length)).take ks.length)) → (∀ i ∈ is, Fits ks ((ys.drop (i * ks.length)).take ks.length)) →
 ∃ r : Bool, (Op.eqItems dd e (P.cellsOf e) xs.toArray ys.toArray is).run P w = .ok r w ∧ (r = true ↔ ∀ i ∈ is, (xs.drop (i * ks.length)).take ks.length = (ys.drop (i * ks.length)).take ks.length)
 | [], _, _ => ⟨true, by simp [Op.eqItems], by simp⟩
 | i :: is, hx, hy => by
   obtain ⟨r', hr', hi'⟩ := items_fit hk hc IH w xs ys is (fun i hi => hx i (List.mem_cons_of_mem _ hi)) (fun i hi => hy i (List.mem_cons_of_mem _ hi))
   have p1 := part_fit (w := w) (off := i * ks.length) hk hc (hx i List.mem_cons_self)
   have p2 := part_fit (w := w) (off := i * ks.length) hk hc (hy i List.mem_cons_self)
   obtain ⟨r, hr, hi⟩ := IH w _ _ (hx i List.mem_cons_self) (hy i List.mem_cons_self)
   rw [hc] at hr' ⊢
   simp only [Op.eqItems, Sem.run_bind, p1, p2, hr, Result.andThen_ok]
   cases r
   · exact ⟨false, by simp, by simp; intro e; exact absurd (hi.2 e) (by simp)⟩
   · refine ⟨r', by simpa using hr', ?_⟩
     rw [hi']
     simp [hi.1 rfl]
theorem fields_fit {d dd : Nat} (IH : ∀ t ks, kindsOf P d t = some ks → EqK P dd t ks) (w : World) (xs ys : List Value) : ∀ (fs : List Field) (off : Nat) (ks : List Kd), fieldsKinds P (kindsOf P d) fs off = some ks →
 Fits ks (xs.drop off) → Fits ks (ys.drop off) → ∃ r : Bool, (Op.eqFields dd xs.toArray ys.toArray fs).run P w = .ok r w ∧ (r = true ↔ xs.drop off = ys.drop off)
 | [], off, ks, h, hx, hy => by
   simp only [fieldsKinds, Option.some.injEq] at h
   subst h
   have h1 := hx.length
   have h2 := hy.length
   refine ⟨true, by simp [Op.eqFields], ?_⟩
   rw [List.eq_nil_of_length_eq_zero h1, List.eq_nil_of_length_eq_zero h2]
   simp
 | f :: fs, off, ks, h, hx, hy => by
   simp only [fieldsKinds] at h
   split at h
   · rename_i hn
     split at h
     · rename_i k1 hk1
       split at h
       · rename_i hc
         simp only [Option.map_eq_some_iff] at h
         obtain ⟨k2, h2, rfl⟩ := h
         have sx := hx.split
         have sy := hy.split
         rw [List.drop_drop] at sx sy
         obtain ⟨r', hr', hi'⟩ := fields_fit IH w xs ys fs _ k2 h2 sx.2 sy.2
         have p1 := part_fit (w := w) (off := off) hk1 hc sx.1
         have p2 := part_fit (w := w) (off := off) hk1 hc sy.1
         obtain ⟨r, hr, hi⟩ := IH _ _ hk1 w _ _ sx.1 sy.1
         have hcut : xs.drop off = ys.drop off ↔ (xs.drop off).take k1.length = (ys.drop off).take k1.length ∧ xs.drop (off + k1.length) = ys.drop (off + k1.length) := by
          constructor
          · intro e; rw [← List.drop_drop, ← List.drop_drop, e]; exact ⟨rfl, rfl⟩
          · intro ⟨e1, e2⟩
            rw [← List.drop_drop, ← List.drop_drop] at e2
            rw [← List.take_append_drop k1.length (xs.drop off), e1, e2, List.take_append_drop]
         rw [hcut]
         simp only [Op.eqFields, hn.1, hn.2, ne_eq, not_false_eq_true, if_true, Sem.run_bind, p1, p2, hr, Result.andThen_ok]
         cases r
         · exact ⟨false, by simp, by simp; intro e; exact absurd (hi.2 e) (by simp)⟩
         · refine ⟨r', by simpa using hr', ?_⟩
           rw [hi']
           simp [hi.1 rfl]
       · cases h
     · cases h
   · cases h
theorem chunks_eq {α : Type} {xs ys : List α} {n L : Nat} (hx : xs.length = n * L) (hy : ys.length = n * L) (h : ∀ i, i < n → (xs.drop (i * L)).take L = (ys.drop (i * L)).take L) : xs = ys := by
 apply List.ext_getElem? 
 intro k
 by_cases hk : k < n * L
 · have hL : 0 < L := by
    rcases Nat.eq_zero_or_pos L with rfl | h
    · simp at hk
    · exact h
   have hi : k / L < n := Nat.div_lt_of_lt_mul (by rw [Nat.mul_comm]; exact hk)
   have := congrArg (fun l => l[k % L]?) (h _ hi)
   have hm := Nat.mod_lt k hL
   simp only [List.getElem?_take, if_pos hm, List.getElem?_drop] at this
   have e : k / L * L + k % L = k := by rw [Nat.mul_comm]; exact Nat.div_add_mod k L
   rwa [e] at this
 · rw [List.getElem?_eq_none (by omega), List.getElem?_eq_none (by omega)]
theorem rep_len {ks : List Kd} : ∀ n, (List.replicate n ks).flatten.length = n * ks.length
 | 0 => by simp
 | n + 1 => by rw [List.replicate_succ, List.flatten_cons, List.length_append, rep_len n, Nat.succ_mul, Nat.add_comm]
theorem eq_main : ∀ (d j : Nat) (t : TypeId) (ks : List Kd), kindsOf P d t = some ks → EqK P (j + d) t ks
 | 0, _, _, _, h => by cases h
 | d + 1, j, t, ks, hk => by
   intro w xs ys hx hy
   unfold kindsOf at hk
   unfold mkV
   cases hu : P.underlying t with
   | none => simp [hu] at hk
   | some kd =>
     cases kd <;> simp only [hu] at hk <;> first | (cases hk; done) | skip
     case bool =>
      cases hk
      match xs, ys, hx, hy with
      | [_], [_], ⟨⟨a, rfl⟩, _⟩, ⟨⟨b, rfl⟩, _⟩ => exact ⟨a == b, by rw [← Nat.add_assoc]; simp [run_equalIn_bool', hu], by simp⟩
     case int q =>
      cases hk
      match xs, ys, hx, hy with
      | [_], [_], ⟨⟨a, rfl⟩, _⟩, ⟨⟨b, rfl⟩, _⟩ => exact ⟨a == b, by rw [← Nat.add_assoc]; simp [run_equalIn_int, hu], by simp⟩
     case string =>
      cases hk
      match xs, ys, hx, hy with
      | [_], [_], ⟨⟨a, rfl⟩, _⟩, ⟨⟨b, rfl⟩, _⟩ => exact ⟨a.toList == b.toList, by rw [← Nat.add_assoc]; simp [run_equalIn_string, hu], by rw [toList_beq]; simp⟩
     case array n e =>
      split at hk
      · rename_i k1 hk1
        split at hk
        · rename_i hc
          cases hk
          obtain ⟨i, hi⟩ : ∃ i, P.info? e = some i := by
           cases d with
           | zero => cases hk1
           | succ d =>
             unfold kindsOf at hk1
             cases hue : P.underlying e with
             | none => simp [hue] at hk1
             | some _ => exact info_of_underlying hue
          obtain ⟨r, hr, hiff⟩ := items_fit hk1 hc (eq_main d j e k1 hk1) w xs ys (List.range n) (fun i hi => hx.chunk (List.mem_range.1 hi)) (fun i hi => hy.chunk (List.mem_range.1 hi))
          refine ⟨r, by rw [← Nat.add_assoc, run_equalIn_array w (j + d) xs.toArray ys.toArray hu hi]; exact hr, ?_⟩
          rw [hiff]
          constructor
          · intro h
            exact chunks_eq (n := n) (L := k1.length) (by rw [hx.length, rep_len]) (by rw [hy.length, rep_len]) (fun i hi => h i (List.mem_range.2 hi))
          · intro e; rw [e]; exact fun _ _ => rfl
        · cases hk
      · cases hk
     case struct fs =>
      split at hk
      · rename_i hst
        have hfs : P.fieldsOf t = fs := by simp [Program.fieldsOf, hu]
        obtain ⟨r, hr, hiff⟩ := fields_fit (fun t' ks' h' => eq_main d j t' ks' h') w xs ys fs.toList 0 ks hk (by simpa using hx) (by simpa using hy)
        exact ⟨r, by rw [← Nat.add_assoc, run_equalIn_struct w (j + d) t xs.toArray ys.toArray (by rw [hfs]; exact hu) hst, hfs]; exact hr, by simpa using hiff⟩
      · cases hk
def isAggT (P : Program) (t : TypeId) : Bool := match P.underlying t with | some (.struct _) => true | some (.array _ _) => true | _ => false
theorem mkV_agg {t : TypeId} {xs : List Value} (h : isAggT P t = true) : mkV P t xs = .agg xs.toArray := by
 unfold isAggT at h
 unfold mkV
 split at h <;> first | (rename_i hh; rw [hh]; done) | cases h
theorem equal_agg {t : TypeId} {xs ys : List Value} {d : Nat} {ks : List Kd} (hm : isAggT P t = true) (hk : kindsOf P d t = some ks) (hd : d ≤ 10000) (fx : Fits ks xs) (fy : Fits ks ys) :
 ∃ r : Bool, (∀ w, (Op.equal t (.agg xs.toArray) (.agg ys.toArray)).run P w = .ok r w) ∧ (r = true ↔ xs = ys) := by
 classical
 refine ⟨decide (xs = ys), fun w => ?_, by simp⟩
 obtain ⟨r, hr, hi⟩ := eq_main d (10000 - d) t ks hk w xs ys fx fy
 rw [mkV_agg hm, mkV_agg hm, show 10000 - d + d = 10000 by omega] at hr
 have e : r = decide (xs = ys) := by
  by_cases h : xs = ys
  · rw [decide_eq_true h]; exact hi.2 h
  · rw [decide_eq_false h]
    cases r with
    | false => rfl
    | true => exact absurd (hi.1 rfl) h
 rw [← e]
 exact hr
theorem eql_run {o : Oper} {fr : List Value} {x y : Operand} {t s : TypeId} {xs ys : List Value} {d : Nat} {ks : List Kd} (ho : o.op = .binOp .eql t x y s) (hx : Act.eval ⟨fr.toArray, []⟩ x = .agg xs.toArray) (hy : Act.eval ⟨fr.toArray, []⟩ y = .agg ys.toArray)
 (hm : isAggT P t = true) (hg : P.eqGuardType P.depth t = false) (hk : kindsOf P d t = some ks) (hd : d ≤ 10000) (fx : Fits ks xs) (fy : Fits ks ys) :
 ∃ r : Bool, (∀ w, (execOp (Act.eval ⟨fr.toArray, []⟩) o).run P w = .ok (.value (.bool r)) w) ∧ (r = true ↔ xs = ys) := by
 obtain ⟨r, h1, h2⟩ := equal_agg hm hk hd fx fy
 refine ⟨r, fun w => ?_, h2⟩
 unfold execOp
 rw [ho]
 simp only [hx, hy, Sem.run_bind, run_eqGuard_agg w .eql t x y xs.toArray ys.toArray hg, Result.andThen_ok, binOp]
 simp [h1]
theorem neq_run {o : Oper} {fr : List Value} {x y : Operand} {t s : TypeId} {xs ys : List Value} {d : Nat} {ks : List Kd} (ho : o.op = .binOp .neq t x y s) (hx : Act.eval ⟨fr.toArray, []⟩ x = .agg xs.toArray) (hy : Act.eval ⟨fr.toArray, []⟩ y = .agg ys.toArray)
 (hm : isAggT P t = true) (hg : P.eqGuardType P.depth t = false) (hk : kindsOf P d t = some ks) (hd : d ≤ 10000) (fx : Fits ks xs) (fy : Fits ks ys) :
 ∃ r : Bool, (∀ w, (execOp (Act.eval ⟨fr.toArray, []⟩) o).run P w = .ok (.value (.bool !r)) w) ∧ (r = true ↔ xs = ys) := by
 obtain ⟨r, h1, h2⟩ := equal_agg hm hk hd fx fy
 refine ⟨r, fun w => ?_, h2⟩
 unfold execOp
 rw [ho]
 simp only [hx, hy, Sem.run_bind, run_eqGuard_agg w .neq t x y xs.toArray ys.toArray hg, Result.andThen_ok, binOp]
 simp [h1]
section
variable {M : List Blk} {k : Kv} {pan : Kp}
theorem if_bool {r : Bool} {p : Prop} {K : Bool → Prop} (h2 : r = true ↔ p) (h : If p (K true) (K false)) : K r := by
 have h := h.out
 cases r with
 | true => exact h.1 (h2.1 rfl)
 | false => exact h.2 fun hp => by have := h2.2 hp; cases this
theorem if_bool_n {r : Bool} {p : Prop} {K : Bool → Prop} (h2 : r = true ↔ p) (h : If p (K false) (K true)) : K (!r) := by
 have h := h.out
 cases r with
 | true => exact h.1 (h2.1 rfl)
 | false => exact h.2 fun hp => by have := h2.2 hp; cases this
theorem agg_eql {o : Oper} {fr : List Value} {x y : Operand} {t s : TypeId} {xs ys : List Value} {d : Nat} {ks : List Kd} (hk : kindsOf P d t = some ks) (hd : d ≤ 10000) (ho : o.op = .binOp .eql t x y s) (hx : Act.eval ⟨fr.toArray, []⟩ x = .agg xs.toArray) (hy : Act.eval ⟨fr.toArray, []⟩ y = .agg ys.toArray)
 (hm : isAggT P t = true) (hg : P.eqGuardType P.depth t = false) (fx : Fits ks xs) (fy : Fits ks ys) (h : If (xs = ys) (k (.bool true) M) (k (.bool false) M)) : Runs P (execOp (Act.eval ⟨fr.toArray, []⟩) o) M k pan := by
 obtain ⟨r, h1, h2⟩ := eql_run ho hx hy hm hg hk hd fx fy
 exact Runs.val h1 (if_bool (K := fun b => k (.bool b) M) h2 h)
theorem agg_neq {o : Oper} {fr : List Value} {x y : Operand} {t s : TypeId} {xs ys : List Value} {d : Nat} {ks : List Kd} (hk : kindsOf P d t = some ks) (hd : d ≤ 10000) (ho : o.op = .binOp .neq t x y s) (hx : Act.eval ⟨fr.toArray, []⟩ x = .agg xs.toArray) (hy : Act.eval ⟨fr.toArray, []⟩ y = .agg ys.toArray)
 (hm : isAggT P t = true) (hg : P.eqGuardType P.depth t = false) (fx : Fits ks xs) (fy : Fits ks ys) (h : If (xs = ys) (k (.bool false) M) (k (.bool true) M)) : Runs P (execOp (Act.eval ⟨fr.toArray, []⟩) o) M k pan := by
 obtain ⟨r, h1, h2⟩ := neq_run ho hx hy hm hg hk hd fx fy
 exact Runs.val h1 (if_bool_n (K := fun b => k (.bool b) M) h2 h)
theorem call_ro {f : FuncId} {args : List Value} {N N' : List Blk} {v : Value} (h : Fnc P f args N (Ret v N')) (hro : ∀ b ∈ N, b.ro = true) (hv : ∀ A w0 w, St A w0 w M → Mem w N) (hk : k v M) : Cl P f args M k pan := by
 refine ⟨h.out.1, fun A w0 w st => ?_⟩
 refine (h.out.2 w (hv A w0 w st)).mono fun e w' ⟨A', s1, h1, _⟩ => ?_
 subst h1
 have hkeep : ∀ k, k < w.heap.size → w'.heap[k]? = w.heap[k]? := fun k hk => s1.keep k hk fun b hb hb' => by rw [hro b hb] at hb'; cases hb'
 refine ⟨M, ⟨s1.os.trans st.os, s1.tape.trans st.tape, s1.output.trans st.output, Nat.le_trans st.size s1.size, fun k hk hA => ?_, fun b hb => ?_, st.own, st.apart⟩, hk⟩
 · exact (hkeep k (Nat.lt_of_lt_of_le hk st.size)).trans (st.keep k hk hA)
 · have := st.has b hb
   exact this.same (hkeep _ this.lt)
theorem call_lit {f : FuncId} {args : List Value} {n : Nat} {cs : List Value} {t : TypeId} {N' : List Blk} {v : Value} (h : Fnc P f args [⟨n, .ro 0 cs⟩] (Ret v N')) [hl : Look M n (.cells cs t)] (hk : k v M) : Cl P f args M k pan := by
 refine call_ro h (by simp [Blk.ro]) (fun A w0 w st => ⟨?_, List.pairwise_singleton _ _⟩) hk
 intro b hb
 simp only [List.mem_singleton] at hb
 subst hb
 have := st.has _ hl.mem
 refine ⟨this.lt, fun j v hj => ?_⟩
 simp only [Blk.holds] at this
 simpa [World.cell?, this] using hj
end
end
end Ev
namespace Ev
open Go
def Kd.okw : Kd → Value → Prop
 | .bool, v => ∃ b, v = .bool b
 | .int k, v => ∃ z, v = .int k z ∧ (Lit.int k z).wf = true
 | .string, v => ∃ s, v = .string s
def FitsW : List Kd → List Value → Prop
 | [], [] => True
 | k :: ks, v :: vs => k.okw v ∧ FitsW ks vs
 | _, _ => False
theorem FitsW.length : ∀ {ks : List Kd} {vs : List Value}, FitsW ks vs → vs.length = ks.length
 | [], [], _ => rfl
 | _ :: _, _ :: _, h => by simp [FitsW.length h.2]
 | [], _ :: _, h => h.elim
 | _ :: _, [], h => h.elim
theorem FitsW.split : ∀ {ks ks' : List Kd} {vs : List Value}, FitsW (ks ++ ks') vs → FitsW ks (vs.take ks.length) ∧ FitsW ks' (vs.drop ks.length)
 | [], ks', vs, h => ⟨by simp [FitsW], by simpa using h⟩
 | _ :: _, _, [], h => h.elim
 | k :: ks, ks', v :: vs, h => by
     have := FitsW.split h.2
     exact ⟨⟨h.1, this.1⟩, this.2⟩
theorem FitsW.app : ∀ {ks ks' : List Kd} {vs vs' : List Value}, FitsW ks vs → FitsW ks' vs' → FitsW (ks ++ ks') (vs ++ vs')
 | [], _, [], _, _, h => h
 | _ :: _, _, _ :: _, _, h, h' => ⟨h.1, FitsW.app h.2 h'⟩
 | [], _, _ :: _, _, h, _ => h.elim
 | _ :: _, _, [], _, h, _ => h.elim
theorem FitsW.get : ∀ {ks : List Kd} {vs : List Value} {i : Nat} {k : Kd}, FitsW ks vs → ks[i]? = some k → ∃ v, vs[i]? = some v ∧ k.okw v
 | k :: ks, v :: vs, 0, k', h, hk => by simp at hk; subst hk; exact ⟨v, rfl, h.1⟩
 | k :: ks, v :: vs, i + 1, k', h, hk => by
     obtain ⟨u, h1, h2⟩ := FitsW.get h.2 (by simpa using hk)
     exact ⟨u, by simpa using h1, h2⟩
 | [], _, _, _, _, hk => by simp at hk
 | _ :: _, [], _, _, h, _ => h.elim
theorem FitsW.chunks {ks : List Kd} : ∀ {n : Nat} {cs : List Value}, cs.length = n * ks.length → (∀ i, i < n → FitsW ks ((cs.drop (i * ks.length)).take ks.length)) → FitsW (List.replicate n ks).flatten cs
 | 0, cs, hl, _ => by
    have : cs = [] := List.eq_nil_of_length_eq_zero (by omega)
    subst this; trivial
 | n + 1, cs, hl, h => by
     rw [List.replicate_succ, List.flatten_cons, ← List.take_append_drop ks.length cs]
     refine FitsW.app (by simpa using h 0 (by omega)) (FitsW.chunks (by rw [List.length_drop, hl, Nat.succ_mul]; omega) fun i hi => ?_)
     have := h (i + 1) (by omega)
     rw [List.drop_drop]
     rwa [Nat.succ_mul, Nat.add_comm] at this
section
variable {H : Type} {enc : TypeId × Value → H} {P : Program} {w : World} {base : Nat} {spare : Nat → Bool} {held : Bool}
theorem fields_in {d fuel : Nat} {cs : List Value} (IH : ∀ t ks, kindsOf P d t = some ks → P.cellsOf t = ks.length → ∀ cs' x, DataW.trod enc P w base spare held fuel t cs' = some x → FitsW ks cs') :
 ∀ (fs : List Field) (off : Nat) (ks : List Kd), fieldsKinds P (kindsOf P d) fs off = some ks → (cs.drop off).length = ks.length →
   (∀ f ∈ fs, ∃ x, DataW.trod enc P w base spare held fuel f.type ((cs.drop f.offset).take (P.cellsOf f.type)) = some x) → FitsW ks (cs.drop off)
 | [], off, ks, h, hl, _ => by
   simp only [fieldsKinds, Option.some.injEq] at h
   subst h
   rw [List.eq_nil_of_length_eq_zero hl]
   trivial
 | f :: fs, off, ks, h, hl, hx => by
   simp only [fieldsKinds] at h
   split at h
   · rename_i hn
     split at h
     · rename_i k1 hk1
       split at h
       · rename_i hc
         simp only [Option.map_eq_some_iff] at h
         obtain ⟨k2, h2, rfl⟩ := h
         obtain ⟨x, hx1⟩ := hx f List.mem_cons_self
         rw [hn.2, hc] at hx1
         rw [← List.take_append_drop k1.length (cs.drop off)]
         refine FitsW.app (IH _ _ hk1 hc _ x hx1) ?_
         rw [List.drop_drop]
         exact fields_in IH fs _ k2 h2 (by rw [List.length_append] at hl; rw [← List.drop_drop, List.length_drop, hl]; omega) (fun g hg => hx g (List.mem_cons_of_mem _ hg))
       · cases h
     · cases h
   · cases h
theorem trod_fits : ∀ (d : Nat) (t : TypeId) (ks : List Kd), kindsOf P d t = some ks → P.cellsOf t = ks.length → ∀ (fuel : Nat) (cs : List Value) (x : DataW H × List MemPlace), DataW.trod enc P w base spare held fuel t cs = some x → FitsW ks cs
 | 0, _, _, h, _, _, _, _, _ => by cases h
 | d + 1, t, ks, hk, hc, fuel, cs, x, h => by
   unfold kindsOf at hk
   cases hu : P.underlying t with
   | none => simp [hu] at hk
   | some kd =>
     cases kd <;> simp only [hu] at hk <;> first | (cases hk; done) | skip
     case bool =>
      cases hk
      obtain ⟨b, rfl, _⟩ := DataW.trod_bool hu h
      exact ⟨⟨b, rfl⟩, trivial⟩
     case int q =>
      cases hk
      obtain ⟨z, rfl, _, hw⟩ := DataW.trod_int hu h
      exact ⟨⟨z, rfl, hw⟩, trivial⟩
     case string =>
      cases hk
      obtain ⟨s, rfl, _⟩ := DataW.trod_string hu h
      exact ⟨⟨s, rfl⟩, trivial⟩
     case array n e =>
      split at hk
      · rename_i k1 hk1
        split at hk
        · rename_i hc1
          cases hk
          obtain ⟨xs, m, _, _, hlen, hxl, hf⟩ := DataW.trod_array hu h
          refine FitsW.chunks (by rw [hlen, hc, rep_len]) fun i hi => ?_
          have h1 := hf i hi
          rw [hc1, List.getElem?_eq_getElem (by omega)] at h1
          exact trod_fits d e k1 hk1 hc1 m _ _ h1
        · cases hk
      · cases hk
     case struct fs =>
      split at hk
      · obtain ⟨xs, m, _, _, hlen, hxl, hf⟩ := DataW.trod_struct hu h
        have := fields_in (cs := cs) (fun t' ks' h1 h2 cs' x' h3 => trod_fits d t' ks' h1 h2 m cs' x' h3) fs.toList 0 ks hk (by simpa using hlen.trans hc) (fun f hf1 => by
         obtain ⟨i, hi⟩ := List.getElem?_of_mem hf1
         have hi' : fs[i]? = some f := by simpa using hi
         have h1 := hf i f hi'
         have : i < xs.length := by rw [hxl]; exact (Array.getElem?_eq_some_iff.1 hi').1
         rw [List.getElem?_eq_getElem this] at h1
         exact ⟨_, h1⟩)
        simpa using this
      · cases hk
end
end Ev
end Go.Proofs.YtkjamonkohpcnaaGreat
