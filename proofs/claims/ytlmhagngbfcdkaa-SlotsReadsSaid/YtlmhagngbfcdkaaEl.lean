/- Rows of memory that are made, grown and read: the rules for make, append, and strings out of bytes. -/
import Derived.Test.YtlmhagngbfcdkaaEz
import Derived.Lib.AppendStr
import Derived.Laws.IdiomStrings
namespace Go.Proofs.Ytlmhagngbfcdkaa.Ev
open Go
open Go.Lib (strCells run_append_room_string run_append_grow_string)
set_option linter.unusedVariables false
set_option linter.unusedSimpArgs false

/-- Bytes as cells. -/
def u8s (l : List UInt8) : List Value := l.map fun b => .int .u8 b.toNat
@[simp] theorem u8s_length (l : List UInt8) : (u8s l).length = l.length := by simp [u8s]
theorem u8s_append (a b : List UInt8) : u8s (a ++ b) = u8s a ++ u8s b := by simp [u8s]
theorem u8s_get {l : List UInt8} {j : Nat} (h : j < l.length) : (u8s l)[j]? = some (.int .u8 l[j].toNat) := by simp [u8s, h]
theorem u8s_one {l : List UInt8} : ∀ u ∈ u8s l, u.oneCell' = true := by
  intro u hu
  simp only [u8s, List.mem_map] at hu
  obtain ⟨b, _, rfl⟩ := hu
  rfl
theorem strCells_eq (s : ByteArray) : strCells s = u8s s.data.toList := by simp [strCells, u8s]

/-- A string out of its bytes. -/
def str (l : List UInt8) : ByteArray := ⟨l.toArray⟩
@[simp] theorem str_size (l : List UInt8) : (str l).size = l.length := rfl
@[simp] theorem str_data (l : List UInt8) : (str l).data.toList = l := rfl
theorem str_eta (s : ByteArray) : str s.data.toList = s := by cases s; rfl
theorem str_append (a b : List UInt8) : str a ++ str b = str (a ++ b) := by
  apply ByteArray.ext
  simp [str, ByteArray.data_append]
theorem str_inj {a b : List UInt8} : str a = str b ↔ a = b := by
  constructor
  · intro h
    have := congrArg (fun s : ByteArray => s.data.toList) h
    simpa using this
  · rintro rfl; rfl

/-- A slice of the call's own: nil, or the head of a row. -/
inductive Own where
  | nil
  | at_ (g cap : Nat) (junk : List Value)
def Own.p : Own → Option Addr
  | .nil => none
  | .at_ g _ _ => some ⟨g, 0, none⟩
def Own.c : Own → Nat
  | .nil => 0
  | .at_ _ cap _ => cap
abbrev Own.val (S : Own) (n : Nat) : Value := .slice S.p n S.c
def Own.blk (S : Own) (e : TypeId) (xs : List Value) : List Blk :=
  match S with
  | .nil => []
  | .at_ g _ junk => [⟨g, .row (xs ++ junk) e⟩]
def Own.ok (S : Own) (size n : Nat) (xs : List Value) : Prop :=
  xs.length = n * size ∧ match S with
  | .nil => n = 0
  | .at_ _ cap junk => n ≤ cap ∧ (xs ++ junk).length = cap * size

/-- M with a hole at a slice of its own. -/
class ZipO (M : List Blk) (S : Own) (e : TypeId) (xs : List Value) (f : outParam (List Blk → List Blk)) : Prop where
  out : ∃ L R, M = L ++ (S.blk e xs ++ R) ∧ ∀ l, f l = L ++ (l ++ R)
instance (priority := high) ZipO.here {M : List Blk} {S : Own} {e : TypeId} {xs : List Value} : ZipO (S.blk e xs ++ M) S e xs (fun l => l ++ M) := ⟨⟨[], M, rfl, fun _ => rfl⟩⟩
instance (priority := high) ZipO.last {S : Own} {e : TypeId} {xs : List Value} : ZipO (S.blk e xs) S e xs (fun l => l) := ⟨⟨[], [], by simp, fun _ => by simp⟩⟩
instance (priority := low) ZipO.there {M : List Blk} {S : Own} {e : TypeId} {xs : List Value} {f : List Blk → List Blk} {c : Blk} [h : ZipO M S e xs f] : ZipO (c :: M) S e xs (fun l => c :: f l) :=
  ⟨let ⟨L, R, h1, h2⟩ := h.out; ⟨c :: L, R, by rw [h1]; rfl, fun b => by rw [h2]; rfl⟩⟩
instance (priority := low) ZipO.app {K M : List Blk} {S : Own} {e : TypeId} {xs : List Value} {f : List Blk → List Blk} [h : ZipO M S e xs f] : ZipO (K ++ M) S e xs (fun l => K ++ f l) :=
  ⟨let ⟨L, R, h1, h2⟩ := h.out; ⟨K ++ L, R, by rw [h1]; simp, fun b => by rw [h2]; simp⟩⟩

section
variable {P : Program} {M : List Blk} {k : Kv} {pan : Kp}

theorem St.drop_mid {A L K R : List Blk} {w0 w : World} (h : St A w0 w (L ++ (K ++ R))) : St A w0 w (L ++ R) := by
  refine ⟨h.os, h.tape, h.output, h.size, h.keep, fun b hb => h.has b ?_, fun b hb => h.own b ?_, ?_⟩
  · rcases List.mem_append.1 hb with hb | hb <;> simp [hb]
  · rcases List.mem_append.1 hb with hb | hb <;> simp [hb]
  · exact h.apart.sublist (List.Sublist.append (List.Sublist.refl L) (List.sublist_append_right K R))

/-- make([]T, n): the elements of one cell. -/
theorem mk_row {t e : TypeId} {i : TypeInfo} {z : Value} {kd kd' : IntKind} {l c : Int} (ht : P.underlying t = some (.slice e)) (hi : P.info? e = some i) (hz : i.zero = some z) (hs : i.size = 1) (hzc : z.cells = #[z])
    (hl : 0 ≤ l ∧ l ≤ c) (hc : c ≤ 9223372036854775807) (hb : (i.bytes : Int) * c ≤ 281474976710656)
    (h : ∀ n : Nat, k (.slice (some ⟨n, 0, none⟩) l.toNat c.toNat) (⟨n, .row (List.replicate c.toNat z) e⟩ :: M)) : Runs P (VS (Instr.makeSlice t (.int kd l) (.int kd' c))) M k pan := by
  refine ⟨fun A w0 w st => ?_⟩
  have e1 : IntKind.i64.wrap l = l := w64 (by omega) (by omega)
  have e2 : IntKind.i64.wrap c = c := w64 (by omega) (by omega)
  have g1 : ¬ (i.bytes : Int) * c > 2 ^ 48 := by omega
  have g2 : ¬ (i.bytes : Int) * l > 2 ^ 48 := by
    have := Int.mul_le_mul_of_nonneg_left hl.2 (Int.natCast_nonneg i.bytes)
    omega
  have g3 : ¬ l < 0 := by omega
  have g4 : ¬ l > c := by omega
  have g5 : ¬ c < 0 := by omega
  have hrow : ((Array.range (c.toNat * 1)).map fun j => (if c.toNat * 1 = 0 then #[] else z.cells)[j % (if c.toNat * 1 = 0 then #[] else z.cells).size]!) = (List.replicate c.toNat z).toArray := by
    apply Array.ext
    · simp
    · intro j h1 h2
      have hne : ¬ c.toNat * 1 = 0 := by simp at h1; omega
      have hm1 : j % 1 = 0 := Nat.mod_one j
      simp only [if_neg hne, hzc, Array.getElem_map, Array.getElem_range, List.getElem_toArray, List.getElem_replicate]
      simp [hm1]
  have hrun : (VS (Instr.makeSlice t (.int kd l) (.int kd' c))).run P w = .ok (.value (.slice (some ⟨w.heap.size, 0, none⟩) l.toNat c.toNat)) { w with heap := w.heap.push (.cells (List.replicate c.toNat z).toArray e) } := by
    simp only [VS, Instr.makeSlice, Sem.run_bind, run_underlying ht, Result.andThen_ok, asInt, asIntOf, Sem.run_pure, typeInfo, run_program, hi, e1, e2]
    have ht1 : (decide (c < 0) || decide ((i.bytes : Int) * c > 2 ^ 48)) = false := by simp only [decide_eq_false g5, decide_eq_false g1]; rfl
    simp only [ht1, decide_eq_false g3, decide_eq_false g4, Bool.or_false, Bool.false_eq_true, if_false, Sem.run_bind, run_askRoom, Result.andThen_ok, run_sizeOf_eq hi, hs]
    by_cases hq : c.toNat * 1 = 0
    · simp only [if_pos hq] at hrow ⊢
      simp only [Sem.run_bind, newRow, run_newObj, Sem.run_pure, Result.andThen_ok, hrow]
    · simp only [if_neg hq] at hrow ⊢
      simp only [Sem.run_bind, zeroValue, typeInfo, run_program, hi, hz, newRow, run_newObj, Sem.run_pure, Result.andThen_ok, hrow]
  rw [hrun]
  exact ⟨_, st.new _ (.row (List.replicate c.toNat z) e) (by simp [Blk.holds]), h _⟩

/-- string(b): the bytes of a row that is known. -/
theorem b2s {src dst e : TypeId} {n off len cap : Nat} {l : List UInt8} (hs : P.underlying src = some (.slice e)) (he : P.underlying e = some (.int .u8)) (hd : P.underlying dst = some .string) (hlen : len = l.length)
    (hc : ∀ A w0 w, St A w0 w M → ∀ j (hj : j < l.length), w.cell? ⟨n, off + j, none⟩ = some (.int .u8 (l[j].toNat : Int))) (h : k (.string (str l)) M) :
    Runs P (VS (convert src dst (.slice (some ⟨n, off, none⟩) len cap))) M k pan := by
  refine ⟨fun A w0 w st => ?_⟩
  have hr := run_convert_bytes_back (P := P) w src dst e ⟨n, off, none⟩ cap l hs he hd (fun j hj => by rw [add_none]; exact hc A w0 w st j hj)
  have : (VS (convert src dst (.slice (some ⟨n, off, none⟩) len cap))).run P w = .ok (.value (.string (str l))) w := by
    simp only [VS, Sem.run_bind, hlen, hr, Result.andThen_ok, Sem.run_pure]
    rfl
  rw [this]
  exact ⟨M, st, h⟩
theorem b2s_row {src dst e t : TypeId} {n len cap : Nat} {l : List UInt8} {junk cs : List Value} [hk : Look M n (.row cs t)] (hcs : cs = u8s l ++ junk) (hs : P.underlying src = some (.slice e)) (he : P.underlying e = some (.int .u8)) (hd : P.underlying dst = some .string)
    (hlen : len = l.length) (h : k (.string (str l)) M) : Runs P (VS (convert src dst (.slice (some ⟨n, 0, none⟩) len cap))) M k pan := by
  refine b2s hs he hd hlen (fun A w0 w st j hj => ?_) h
  have := st.has _ hk.mem
  simp only [Blk.holds] at this
  have h2 := u8s_get hj
  simp only [World.cell?, this, Nat.zero_add]
  rw [List.getElem?_toArray, hcs, List.getElem?_append_left (by simpa using hj)]
  exact h2
theorem b2s_lit {src dst e t : TypeId} {n len cap : Nat} {l : List UInt8} {junk cs : List Value} [hk : Look M n (.cells cs t)] (hcs : cs = u8s l ++ junk) (hs : P.underlying src = some (.slice e)) (he : P.underlying e = some (.int .u8)) (hd : P.underlying dst = some .string)
    (hlen : len = l.length) (h : k (.string (str l)) M) : Runs P (VS (convert src dst (.slice (some ⟨n, 0, none⟩) len cap))) M k pan := by
  refine b2s hs he hd hlen (fun A w0 w st j hj => ?_) h
  have := st.has _ hk.mem
  simp only [Blk.holds] at this
  have h2 := u8s_get hj
  simp only [World.cell?, this, Nat.zero_add]
  rw [List.getElem?_toArray, hcs, List.getElem?_append_left (by simpa using hj)]
  exact h2
theorem cells_at {n : Nat} {cs : List Value} {t : TypeId} [hk : Look M n (.cells cs t)] : ∀ (A : List Blk) (w0 w : World), St A w0 w M → ∀ (j : Nat) (v : Value), cs[j]? = some v → w.cell? ⟨n, j, none⟩ = some v := by
  intro A w0 w st j v hj
  have := st.has _ hk.mem
  simp only [Blk.holds] at this
  simp only [World.cell?, this]
  rw [List.getElem?_toArray]
  exact hj
theorem b2s_nil {src dst e : TypeId} {len cap : Nat} (hs : P.underlying src = some (.slice e)) (he : P.underlying e = some (.int .u8)) (hd : P.underlying dst = some .string)
    (h : k (.string (str [])) M) : Runs P (VS (convert src dst (.slice none len cap))) M k pan := by
  refine Runs.val (v := .string (str [])) (fun w => ?_) h
  simp only [VS, Sem.run_bind, run_convert_bytes_string w src dst e none len cap hs he hd]
  rfl
/-- string(out), out a slice of the call's own. -/
theorem b2s_own {src dst e t : TypeId} {S : Own} {n : Nat} {l : List UInt8} {f : List Blk → List Blk} [hz : ZipO M S t (u8s l) f] (hok : S.ok 1 n (u8s l)) (hs : P.underlying src = some (.slice e)) (he : P.underlying e = some (.int .u8)) (hd : P.underlying dst = some .string)
    (h : k (.string (str l)) M) : Runs P (VS (convert src dst (S.val n))) M k pan := by
  obtain ⟨L, R, e1, e2⟩ := hz.out
  have hn : n = l.length := by have := hok.1; simp at this; omega
  cases S with
  | nil =>
    have h0 : l.length = 0 := by have := hok.2; simp only at this; omega
    have : l = [] := List.eq_nil_of_length_eq_zero h0
    subst this
    exact b2s_nil hs he hd h
  | at_ g cap junk =>
    have : Look M g (.row (u8s l ++ junk) t) := ⟨by rw [e1]; simp [Own.blk]⟩
    exact b2s_row (junk := junk) rfl hs he hd hn h

theorem zero1 (z : Value) (hz : z.cells = #[z]) (n : Nat) : Builtin.zeroCells z.cells n = (List.replicate n z).toArray := by
  unfold Builtin.zeroCells
  rw [hz]
  apply Array.ext
  · simp
  · intro j h1 h2; simp [Nat.mod_one]

/-- What an append makes of a slice of the call's own: the step that the two kinds of source share. -/
theorem app_core {S : Own} {e : TypeId} {xs news : List Value} {n m : Nat} {f : List Blk → List Blk} {z : Value} {i : TypeInfo} [hz : ZipO M S e xs f] {s : Sem Value} (hzc : z.cells = #[z]) (hs1 : i.size = 1) (hl : news.length = m)
    (hok : S.ok 1 n xs)
    (hnil : S = .nil → 0 < m → ∀ A w0 w, St A w0 w M → s.run P w = .ok (.slice (some ⟨w.heap.size, 0, none⟩) m (grownCap w m 0 e)) (w.drew.alloc (.cells (news.toArray ++ Builtin.zeroCells z.cells (grownCap w m 0 e - m)) e)))
    (hnil0 : S = .nil → m = 0 → ∀ w, s.run P w = .ok (.slice none 0 0) w)
    (hroom : ∀ g cap junk, S = .at_ g cap junk → n + m ≤ cap → ∀ A w0 w, St A w0 w M → w.heap[g]? = some (.cells (xs ++ junk).toArray e (0, 0)) →
      s.run P w = .ok (.slice (some ⟨g, 0, none⟩) (n + m) cap) (w.setRow g ((xs ++ junk).take n ++ news ++ (xs ++ junk).drop (n + m)).toArray))
    (hgrow : ∀ g cap junk, S = .at_ g cap junk → cap < n + m → ∀ A w0 w, St A w0 w M → (∀ j v, xs[j]? = some v → w.cell? ⟨g, j, none⟩ = some v) →
      s.run P w = .ok (.slice (some ⟨w.heap.size, 0, none⟩) (n + m) (grownCap w (n + m) cap e)) (w.drew.alloc (.cells (xs.toArray ++ news.toArray ++ Builtin.zeroCells z.cells (grownCap w (n + m) cap e - (n + m))) e)))
    (h : ∀ S' : Own, S'.ok 1 (n + m) (xs ++ news) → k (S'.val (n + m)) (f (S'.blk e (xs ++ news)))) : Runs P (VS s) M k pan := by
  obtain ⟨L, R, e1, e2⟩ := hz.out
  have hxl : xs.length = n := by have := hok.1; omega
  refine ⟨fun A w0 w st => ?_⟩
  have new : ∀ (cs : List Value) (cap : Nat), s.run P w = .ok (.slice (some ⟨w.heap.size, 0, none⟩) (n + m) cap) (w.drew.alloc (.cells (xs ++ news ++ cs).toArray e)) → n + m ≤ cap → (xs ++ news ++ cs).length = cap →
      PostN P (fun v w' => ∃ M', St A w0 w' M' ∧ k v M') (fun ch w' => ∃ M', St A w0 w' M' ∧ pan ch M') ((VS s).run P w) := by
    intro cs cap hr hle hcl
    have : (VS s).run P w = .ok (.value (.slice (some ⟨w.heap.size, 0, none⟩) (n + m) cap)) (w.drew.alloc (.cells (xs ++ news ++ cs).toArray e)) := by
      simp only [VS, Sem.run_bind, hr, Result.andThen_ok, Sem.run_pure]
    rw [this]
    have st1 := (st.drew (w.drawn + 1)).new (.cells (xs ++ news ++ cs).toArray e) (.row (xs ++ news ++ cs) e) (by simp [Blk.holds])
    rw [e1] at st1
    have st2 := St.drop_mid (L := (⟨w.heap.size, .row (xs ++ news ++ cs) e⟩ : Blk) :: L) (K := S.blk e xs) (R := R) st1
    refine ⟨_, ?_, h (.at_ w.heap.size cap cs) ⟨by simp; omega, hle, by simpa using hcl⟩⟩
    rw [e2]
    refine st2.perm ?_
    simp only [Own.blk, List.cons_append, List.nil_append]
    exact (List.perm_middle).symm
  cases S with
  | nil =>
    have hn0 : n = 0 := hok.2
    have hx0 : xs = [] := List.eq_nil_of_length_eq_zero (by omega)
    subst hn0; subst hx0
    by_cases hm : m = 0
    · have hr := hnil0 rfl hm w
      have hn : news = [] := List.eq_nil_of_length_eq_zero (by omega)
      have : (VS s).run P w = .ok (.value (.slice none 0 0)) w := by simp only [VS, Sem.run_bind, hr, Result.andThen_ok, Sem.run_pure]
      rw [this]
      refine ⟨M, st, ?_⟩
      have := h .nil ⟨by simp; omega, by omega⟩
      rw [e2] at this
      subst hn hm
      simp only [Own.blk, List.nil_append] at this e1
      rw [e1]
      exact this
    · have hr := hnil rfl (by omega) A w0 w st
      have hge := grownCap_ge w m 0 e
      rw [zero1 z hzc] at hr
      refine new (List.replicate (grownCap w m 0 e - m) z) (grownCap w m 0 e) (by
        have ea : news.toArray ++ (List.replicate (grownCap w m 0 e - m) z).toArray = ([] ++ news ++ List.replicate (grownCap w m 0 e - m) z).toArray := by apply Array.ext'; simp
        rw [hr, ea]; simp only [Nat.zero_add]) (by omega) (by simp; omega)
  | at_ g cap junk =>
    obtain ⟨h1, h2⟩ := hok.2
    have hg : w.heap[g]? = some (.cells (xs ++ junk).toArray e (0, 0)) := by
      have := st.has ⟨g, .row (xs ++ junk) e⟩ (by rw [e1]; simp [Own.blk])
      exact this
    by_cases hr : n + m ≤ cap
    · have hrun := hroom g cap junk rfl hr A w0 w st hg
      have : (VS s).run P w = .ok (.value (.slice (some ⟨g, 0, none⟩) (n + m) cap)) (w.setRow g ((xs ++ junk).take n ++ news ++ (xs ++ junk).drop (n + m)).toArray) := by
        simp only [VS, Sem.run_bind, hrun, Result.andThen_ok, Sem.run_pure]
      rw [this]
      have et : (xs ++ junk).take n ++ news ++ (xs ++ junk).drop (n + m) = xs ++ news ++ junk.drop m := by
        rw [List.take_append_of_le_length (by omega), List.take_of_length_le (by omega), List.drop_append, List.drop_of_length_le (by omega)]
        simp [hxl]
      rw [et]
      have hu : Upd M g (.row (xs ++ junk) e) (.row (xs ++ news ++ junk.drop m) e) (L ++ (⟨g, .row (xs ++ news ++ junk.drop m) e⟩ :: R)) := ⟨⟨L, R, by rw [e1]; rfl, rfl⟩⟩
      refine ⟨_, ?_, h (.at_ g cap (junk.drop m)) ⟨by simp; omega, hr, ?_⟩⟩
      · rw [e2]
        exact setRow_st st hu (.inr rfl) (.inr rfl)
      · simp at h2 ⊢; omega
    · have hrun := hgrow g cap junk rfl (by omega) A w0 w st (fun j v hj => by
        have hj' := (List.getElem?_eq_some_iff.1 hj).1
        simp only [World.cell?, hg]
        rw [List.getElem?_toArray, List.getElem?_append_left hj']
        exact hj)
      have hge := grownCap_ge w (n + m) cap e
      rw [zero1 z hzc] at hrun
      refine new (List.replicate (grownCap w (n + m) cap e - (n + m)) z) (grownCap w (n + m) cap e) (by
        have ea : xs.toArray ++ news.toArray ++ (List.replicate (grownCap w (n + m) cap e - (n + m)) z).toArray = (xs ++ news ++ List.replicate (grownCap w (n + m) cap e - (n + m)) z).toArray := by apply Array.ext'; simp
        rw [hrun, ea]) (by omega) (by simp; omega)

/-- append(b, s...), s a string. -/
theorem app_str {S : Own} {t u ty e : TypeId} {xs : List Value} {n : Nat} {f : List Blk → List Blk} {i : TypeInfo} {s : ByteArray} [hz : ZipO M S e xs f] (ht : P.underlying t = some (.slice e)) (hu : P.underlying u = some .string)
    (hi : P.info? e = some i) (hzv : i.zero = some (.int .u8 0)) (hs1 : i.size = 1) (hby : i.bytes = 1) (hok : S.ok 1 n xs) (hb : n + s.size ≤ 140737488355328)
    (h : ∀ S' : Own, S'.ok 1 (n + s.size) (xs ++ u8s s.data.toList) → k (S'.val (n + s.size)) (f (S'.blk e (xs ++ u8s s.data.toList)))) :
    Runs P (VS (Builtin.append_ #[t, u] ty #[S.val n, .string s])) M k pan := by
  have hxl : xs.length = n := by have := hok.1; omega
  refine app_core (z := .int .u8 0) (i := i) rfl hs1 (by simp [u8s]) hok ?_ ?_ ?_ ?_ h
  · intro hS hm A w0 w st
    subst hS
    have := run_append_nil_string (P := P) w t u ty e i (.int .u8 0) ht hu hi hzv s hm (by omega) (by rw [hby]; omega)
    rw [← strCells_eq]
    have hn0 : n = 0 := hok.2
    subst hn0
    refine Eq.trans this ?_
    congr 4
    apply Array.ext'
    simp [strCells]
  · intro hS hm w
    subst hS
    have : s.size = 0 := hm
    have hn0 : n = 0 := hok.2
    subst hn0
    simp [Own.p, Own.c, Builtin.append_, run_underlying ht, run_underlying hu, sizeOf, typeInfo, hi, Builtin.lenOf, this, Builtin.firstCells]
  · intro g cap junk hS hr A w0 w st hg
    subst hS
    have := run_append_room_string (P := P) w t u ty e i ht hu hi hs1 g n cap (xs ++ junk).toArray hg s hr (by have := hok.2.2; simp at this ⊢; omega)
    refine Eq.trans this ?_
    rw [strCells_eq]
  · intro g cap junk hS hr A w0 w st hc
    subst hS
    have := run_append_grow_string (P := P) w t u ty e i (.int .u8 0) ht hu hi hzv ⟨g, 0, none⟩ n cap xs (by rw [hs1]; omega) (fun j v hj => by rw [add_none, Nat.zero_add]; exact hc j v hj) s (by omega) (by omega) (growslice_fits (by omega) (by rw [hby]; omega))
    refine Eq.trans this ?_
    rw [strCells_eq]
/-- append(b, xs...), the source cells of a block that is known. -/
theorem app_cells {S : Own} {t ty e : TypeId} {xs news : List Value} {n m g' c : Nat} {f : List Blk → List Blk} {i : TypeInfo} {z : Value} [hz : ZipO M S e xs f] (ht : P.underlying t = some (.slice e))
    (hi : P.info? e = some i) (hzv : i.zero = some z) (hzc : z.cells = #[z]) (hs1 : i.size = 1) (hok : S.ok 1 n xs) (hl : news.length = m) (h1 : ∀ u ∈ news, u.oneCell' = true) (hb : (n + m) * i.bytes ≤ 140737488355328) (hb2 : n + m ≤ 9223372036854775807)
    (hc : ∀ A w0 w, St A w0 w M → ∀ j v, news[j]? = some v → w.cell? ⟨g', j, none⟩ = some v)
    (h : ∀ S' : Own, S'.ok 1 (n + m) (xs ++ news) → k (S'.val (n + m)) (f (S'.blk e (xs ++ news)))) :
    Runs P (VS (Builtin.append_ #[t, t] ty #[S.val n, .slice (some ⟨g', 0, none⟩) m c])) M k pan := by
  have hxl : xs.length = n := by have := hok.1; omega
  refine app_core (z := z) (i := i) hzc hs1 hl hok ?_ ?_ ?_ ?_ h
  · intro hS hm A w0 w st
    subst hS
    have hn0 : n = 0 := hok.2
    subst hn0
    exact run_append_nil (P := P) w t ty e i z ht hi hzv ⟨g', 0, none⟩ m c news (by rw [hs1]; omega) (fun j v hj => by rw [add_none, Nat.zero_add]; exact hc A w0 w st j v hj) hm (by omega) (by simp only [Nat.zero_add] at hb; omega)
  · intro hS hm w
    subst hS
    have hn0 : n = 0 := hok.2
    subst hm
    simp [hn0, Own.p, Own.c, Builtin.append_, run_underlying ht, sizeOf, typeInfo, hi, Builtin.lenOf, Builtin.firstCells, loadCells, loadCellsFrom]
  · intro g cap junk hS hr A w0 w st hg
    subst hS
    have := run_append_room (P := P) w t ty e i ht hi g n cap (xs ++ junk).toArray hg ⟨g', 0, none⟩ m c news (by rw [hs1]; omega) (fun j v hj => by rw [add_none, Nat.zero_add]; exact hc A w0 w st j v hj) h1 hr (by have := hok.2.2; simp [hs1] at this ⊢; omega)
    refine Eq.trans this ?_
    simp [hs1, hl]
  · intro g cap junk hS hr A w0 w st hc'
    subst hS
    have := run_append_grow (P := P) w t ty e i z ht hi hzv ⟨g, 0, none⟩ n cap xs (by rw [hs1]; omega) (fun j v hj => by rw [add_none, Nat.zero_add]; exact hc' j v hj) ⟨g', 0, none⟩ m c news (by rw [hs1]; omega) (fun j v hj => by rw [add_none, Nat.zero_add]; exact hc A w0 w st j v hj) (by omega) (by omega) (growslice_fits (by omega) hb)
    exact this
end
end Go.Proofs.Ytlmhagngbfcdkaa.Ev
