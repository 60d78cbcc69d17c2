/- Structs and arrays of plain cells compared: the answer is whether their cells are the same. -/
import Derived.Test.YtlmhagngbfcdkaaEs2
import Derived.DeepKeys
namespace Go.Proofs.Ytlmhagngbfcdkaa.Ev
open Go
set_option linter.unusedVariables false
set_option linter.unusedSimpArgs false

/-- What a plain cell holds. -/
inductive Kd where
  | bool
  | int (k : IntKind)
  | string
def Kd.ok : Kd → Value → Prop
  | .bool, v => ∃ b, v = .bool b
  | .int k, v => ∃ z, v = .int k z
  | .string, v => ∃ s, v = .string s
def Fits : List Kd → List Value → Prop
  | [], [] => True
  | k :: ks, v :: vs => k.ok v ∧ Fits ks vs
  | _, _ => False
theorem Fits.length : ∀ {ks : List Kd} {vs : List Value}, Fits ks vs → vs.length = ks.length
  | [], [], _ => rfl
  | _ :: _, _ :: _, h => by simp [Fits.length h.2]
  | [], _ :: _, h => h.elim
  | _ :: _, [], h => h.elim
theorem Fits.split : ∀ {ks ks' : List Kd} {vs : List Value}, Fits (ks ++ ks') vs → Fits ks (vs.take ks.length) ∧ Fits ks' (vs.drop ks.length)
  | [], ks', vs, h => ⟨by simp [Fits], by simpa using h⟩
  | _ :: _, _, [], h => h.elim
  | k :: ks, ks', v :: vs, h => by
      have := Fits.split h.2
      exact ⟨⟨h.1, this.1⟩, this.2⟩
theorem Fits.app : ∀ {ks ks' : List Kd} {vs vs' : List Value}, Fits ks vs → Fits ks' vs' → Fits (ks ++ ks') (vs ++ vs')
  | [], _, [], _, _, h => h
  | _ :: _, _, _ :: _, _, h, h' => ⟨h.1, Fits.app h.2 h'⟩
  | [], _, _ :: _, _, h, _ => h.elim
  | _ :: _, _, [], _, h, _ => h.elim
theorem Fits.chunk {ks : List Kd} : ∀ {n : Nat} {vs : List Value} {i : Nat}, Fits (List.replicate n ks).flatten vs → i < n → Fits ks ((vs.drop (i * ks.length)).take ks.length)
  | 0, _, _, _, h => by omega
  | n + 1, vs, 0, h, _ => by
      rw [List.replicate_succ, List.flatten_cons] at h
      simpa using h.split.1
  | n + 1, vs, i + 1, h, hi => by
      rw [List.replicate_succ, List.flatten_cons] at h
      have := Fits.chunk h.split.2 (i := i) (by omega)
      rw [List.drop_drop] at this
      rwa [Nat.succ_mul, Nat.add_comm]

def fieldsKinds (P : Program) (rec : TypeId → Option (List Kd)) : List Field → Nat → Option (List Kd)
  | [], _ => some []
  | f :: fs, off => if f.name ≠ "_" ∧ f.offset = off then
      (match rec f.type with
      | some ks => if P.cellsOf f.type = ks.length then (fieldsKinds P rec fs (off + ks.length)).map (ks ++ ·) else none
      | none => none) else none
/-- The cells of a type, all of them plain. -/
def kindsOf (P : Program) : Nat → TypeId → Option (List Kd)
  | 0, _ => none
  | d + 1, t => match P.underlying t with
    | some .bool => some [.bool]
    | some (.int k) => some [.int k]
    | some .string => some [.string]
    | some (.array n e) => (match kindsOf P d e with
      | some ks => if P.cellsOf e = ks.length then some (List.replicate n ks).flatten else none
      | none => none)
    | some (.struct fs) => if P.stoodInHeld t = false then fieldsKinds P (kindsOf P d) fs.toList 0 else none
    | _ => none
def mkV (P : Program) (t : TypeId) (xs : List Value) : Value :=
  match P.underlying t with
  | some (.array _ _) => .agg xs.toArray
  | some (.struct _) => .agg xs.toArray
  | _ => xs.headD undef

section
variable {P : Program}
theorem take1 {xs zs : List Value} {off : Nat} {v : Value} (h : (xs.drop off).take 1 = [v]) : xs[off]? = some v := by
  have := congrArg (fun l => l[0]?) h
  simpa [List.getElem?_drop] using this
theorem part_fit {d : Nat} {e : TypeId} {ks : List Kd} {xs : List Value} {off : Nat} {w : World} (hk : kindsOf P d e = some ks) (hc : P.cellsOf e = ks.length) (hf : Fits ks ((xs.drop off).take ks.length)) :
    (part e xs.toArray off).run P w = .ok (mkV P e ((xs.drop off).take ks.length)) w := by
  cases d with
  | zero => cases hk
  | succ d =>
    unfold kindsOf at hk
    unfold mkV
    cases hu : P.underlying e with
    | none => simp [hu] at hk
    | some kd =>
      have leaf : ∀ (kd1 : Kd), ks = [kd1] → aggB kd = false → (part e xs.toArray off).run P w = .ok (((xs.drop off).take ks.length).headD undef) w := by
        intro kd1 hks ha
        subst hks
        cases hz : (xs.drop off).take 1 with
        | nil => simp only [List.length_singleton, hz] at hf; exact hf.elim
        | cons v t =>
          have ht : t = [] := by
            have := congrArg List.length hz
            rw [List.length_take] at this
            simp at this
            cases t with
            | nil => rfl
            | cons a b => simp at this; omega
          subst ht
          have hv := take1 (zs := []) hz
          simp only [List.length_singleton, hz, List.headD_cons]
          simp [part, run_isAgg_eq hu, ha, hv]
      have agg : aggB kd = true → (part e xs.toArray off).run P w = .ok (.agg ((xs.drop off).take ks.length).toArray) w := by
        intro ha
        obtain ⟨i, hi⟩ := info_of_underlying hu
        simp [part, run_isAgg_eq hu, ha, run_sizeOf w hi, List.extract_eq_take_drop, hc]
      cases kd <;> simp only [hu] at hk <;> first | (cases hk; done) | skip
      case bool => cases hk; exact leaf _ rfl rfl
      case int q => cases hk; exact leaf _ rfl rfl
      case string => cases hk; exact leaf _ rfl rfl
      case array n e' => exact agg rfl
      case struct fs => exact agg rfl
def EqK (P : Program) (dd : Nat) (t : TypeId) (ks : List Kd) : Prop :=
  ∀ (w : World) (xs ys : List Value), Fits ks xs → Fits ks ys → ∃ r : Bool, (Op.equalIn dd t (mkV P t xs) (mkV P t ys)).run P w = .ok r w ∧ (r = true ↔ xs = ys)
theorem items_fit {d dd : Nat} {e : TypeId} {ks : List Kd} (hk : kindsOf P d e = some ks) (hc : P.cellsOf e = ks.length) (IH : EqK P dd e ks) (w : World) (xs ys : List Value) : ∀ (is : List Nat),
    (∀ i ∈ is, Fits ks ((xs.drop (i * ks.length)).take ks.length)) → (∀ i ∈ is, Fits ks ((ys.drop (i * ks.length)).take ks.length)) →
    ∃ r : Bool, (Op.eqItems dd e (P.cellsOf e) xs.toArray ys.toArray is).run P w = .ok r w ∧ (r = true ↔ ∀ i ∈ is, (xs.drop (i * ks.length)).take ks.length = (ys.drop (i * ks.length)).take ks.length)
  | [], _, _ => ⟨true, by simp [Op.eqItems], by simp⟩
  | i :: is, hx, hy => by
    obtain ⟨r', hr', hi'⟩ := items_fit hk hc IH w xs ys is (fun i hi => hx i (List.mem_cons_of_mem _ hi)) (fun i hi => hy i (List.mem_cons_of_mem _ hi))
    have p1 := part_fit (w := w) (off := i * ks.length) hk hc (hx i List.mem_cons_self)
    have p2 := part_fit (w := w) (off := i * ks.length) hk hc (hy i List.mem_cons_self)
    obtain ⟨r, hr, hi⟩ := IH w _ _ (hx i List.mem_cons_self) (hy i List.mem_cons_self)
    rw [hc] at hr' ⊢
    simp only [Op.eqItems, Sem.run_bind, p1, p2, hr, Result.andThen_ok]
    cases r
    · exact ⟨false, by simp, by simp; intro e; exact absurd (hi.2 e) (by simp)⟩
    · refine ⟨r', by simpa using hr', ?_⟩
      rw [hi']
      simp [hi.1 rfl]
theorem fields_fit {d dd : Nat} (IH : ∀ t ks, kindsOf P d t = some ks → EqK P dd t ks) (w : World) (xs ys : List Value) : ∀ (fs : List Field) (off : Nat) (ks : List Kd), fieldsKinds P (kindsOf P d) fs off = some ks →
    Fits ks (xs.drop off) → Fits ks (ys.drop off) → ∃ r : Bool, (Op.eqFields dd xs.toArray ys.toArray fs).run P w = .ok r w ∧ (r = true ↔ xs.drop off = ys.drop off)
  | [], off, ks, h, hx, hy => by
    simp only [fieldsKinds, Option.some.injEq] at h
    subst h
    have h1 := hx.length
    have h2 := hy.length
    refine ⟨true, by simp [Op.eqFields], ?_⟩
    rw [List.eq_nil_of_length_eq_zero h1, List.eq_nil_of_length_eq_zero h2]
    simp
  | f :: fs, off, ks, h, hx, hy => by
    simp only [fieldsKinds] at h
    split at h
    · rename_i hn
      split at h
      · rename_i k1 hk1
        split at h
        · rename_i hc
          simp only [Option.map_eq_some_iff] at h
          obtain ⟨k2, h2, rfl⟩ := h
          have sx := hx.split
          have sy := hy.split
          rw [List.drop_drop] at sx sy
          obtain ⟨r', hr', hi'⟩ := fields_fit IH w xs ys fs _ k2 h2 sx.2 sy.2
          have p1 := part_fit (w := w) (off := off) hk1 hc sx.1
          have p2 := part_fit (w := w) (off := off) hk1 hc sy.1
          obtain ⟨r, hr, hi⟩ := IH _ _ hk1 w _ _ sx.1 sy.1
          have hcut : xs.drop off = ys.drop off ↔ (xs.drop off).take k1.length = (ys.drop off).take k1.length ∧ xs.drop (off + k1.length) = ys.drop (off + k1.length) := by
            constructor
            · intro e; rw [← List.drop_drop, ← List.drop_drop, e]; exact ⟨rfl, rfl⟩
            · intro ⟨e1, e2⟩
              rw [← List.drop_drop, ← List.drop_drop] at e2
              rw [← List.take_append_drop k1.length (xs.drop off), e1, e2, List.take_append_drop]
          rw [hcut]
          simp only [Op.eqFields, hn.1, hn.2, ne_eq, not_false_eq_true, if_true, Sem.run_bind, p1, p2, hr, Result.andThen_ok]
          cases r
          · exact ⟨false, by simp, by simp; intro e; exact absurd (hi.2 e) (by simp)⟩
          · refine ⟨r', by simpa using hr', ?_⟩
            rw [hi']
            simp [hi.1 rfl]
        · cases h
      · cases h
    · cases h
theorem chunks_eq {α : Type} {xs ys : List α} {n L : Nat} (hx : xs.length = n * L) (hy : ys.length = n * L) (h : ∀ i, i < n → (xs.drop (i * L)).take L = (ys.drop (i * L)).take L) : xs = ys := by
  apply List.ext_getElem? 
  intro k
  by_cases hk : k < n * L
  · have hL : 0 < L := by
      rcases Nat.eq_zero_or_pos L with rfl | h
      · simp at hk
      · exact h
    have hi : k / L < n := Nat.div_lt_of_lt_mul (by rw [Nat.mul_comm]; exact hk)
    have := congrArg (fun l => l[k % L]?) (h _ hi)
    have hm := Nat.mod_lt k hL
    simp only [List.getElem?_take, if_pos hm, List.getElem?_drop] at this
    have e : k / L * L + k % L = k := by rw [Nat.mul_comm]; exact Nat.div_add_mod k L
    rwa [e] at this
  · rw [List.getElem?_eq_none (by omega), List.getElem?_eq_none (by omega)]
theorem rep_len {ks : List Kd} : ∀ n, (List.replicate n ks).flatten.length = n * ks.length
  | 0 => by simp
  | n + 1 => by rw [List.replicate_succ, List.flatten_cons, List.length_append, rep_len n, Nat.succ_mul, Nat.add_comm]
theorem eq_main : ∀ (d j : Nat) (t : TypeId) (ks : List Kd), kindsOf P d t = some ks → EqK P (j + d) t ks
  | 0, _, _, _, h => by cases h
  | d + 1, j, t, ks, hk => by
    intro w xs ys hx hy
    unfold kindsOf at hk
    unfold mkV
    cases hu : P.underlying t with
    | none => simp [hu] at hk
    | some kd =>
      cases kd <;> simp only [hu] at hk <;> first | (cases hk; done) | skip
      case bool =>
        cases hk
        match xs, ys, hx, hy with
        | [_], [_], ⟨⟨a, rfl⟩, _⟩, ⟨⟨b, rfl⟩, _⟩ => exact ⟨a == b, by rw [← Nat.add_assoc]; simp [run_equalIn_bool', hu], by simp⟩
      case int q =>
        cases hk
        match xs, ys, hx, hy with
        | [_], [_], ⟨⟨a, rfl⟩, _⟩, ⟨⟨b, rfl⟩, _⟩ => exact ⟨a == b, by rw [← Nat.add_assoc]; simp [run_equalIn_int, hu], by simp⟩
      case string =>
        cases hk
        match xs, ys, hx, hy with
        | [_], [_], ⟨⟨a, rfl⟩, _⟩, ⟨⟨b, rfl⟩, _⟩ => exact ⟨a.toList == b.toList, by rw [← Nat.add_assoc]; simp [run_equalIn_string, hu], by rw [toList_beq]; simp⟩
      case array n e =>
        split at hk
        · rename_i k1 hk1
          split at hk
          · rename_i hc
            cases hk
            obtain ⟨i, hi⟩ : ∃ i, P.info? e = some i := by
              cases d with
              | zero => cases hk1
              | succ d =>
                unfold kindsOf at hk1
                cases hue : P.underlying e with
                | none => simp [hue] at hk1
                | some _ => exact info_of_underlying hue
            obtain ⟨r, hr, hiff⟩ := items_fit hk1 hc (eq_main d j e k1 hk1) w xs ys (List.range n) (fun i hi => hx.chunk (List.mem_range.1 hi)) (fun i hi => hy.chunk (List.mem_range.1 hi))
            refine ⟨r, by rw [← Nat.add_assoc, run_equalIn_array w (j + d) xs.toArray ys.toArray hu hi]; exact hr, ?_⟩
            rw [hiff]
            constructor
            · intro h
              exact chunks_eq (n := n) (L := k1.length) (by rw [hx.length, rep_len]) (by rw [hy.length, rep_len]) (fun i hi => h i (List.mem_range.2 hi))
            · intro e; rw [e]; exact fun _ _ => rfl
          · cases hk
        · cases hk
      case struct fs =>
        split at hk
        · rename_i hst
          have hfs : P.fieldsOf t = fs := by simp [Program.fieldsOf, hu]
          obtain ⟨r, hr, hiff⟩ := fields_fit (fun t' ks' h' => eq_main d j t' ks' h') w xs ys fs.toList 0 ks hk (by simpa using hx) (by simpa using hy)
          exact ⟨r, by rw [← Nat.add_assoc, run_equalIn_struct w (j + d) t xs.toArray ys.toArray (by rw [hfs]; exact hu) hst, hfs]; exact hr, by simpa using hiff⟩
        · cases hk
def isAggT (P : Program) (t : TypeId) : Bool := match P.underlying t with | some (.struct _) => true | some (.array _ _) => true | _ => false
theorem mkV_agg {t : TypeId} {xs : List Value} (h : isAggT P t = true) : mkV P t xs = .agg xs.toArray := by
  unfold isAggT at h
  unfold mkV
  split at h <;> first | (rename_i hh; rw [hh]; done) | cases h
theorem equal_agg {t : TypeId} {xs ys : List Value} {d : Nat} {ks : List Kd} (hm : isAggT P t = true) (hk : kindsOf P d t = some ks) (hd : d ≤ 10000) (fx : Fits ks xs) (fy : Fits ks ys) :
    ∃ r : Bool, (∀ w, (Op.equal t (.agg xs.toArray) (.agg ys.toArray)).run P w = .ok r w) ∧ (r = true ↔ xs = ys) := by
  classical
  refine ⟨decide (xs = ys), fun w => ?_, by simp⟩
  obtain ⟨r, hr, hi⟩ := eq_main d (10000 - d) t ks hk w xs ys fx fy
  rw [mkV_agg hm, mkV_agg hm, show 10000 - d + d = 10000 by omega] at hr
  have e : r = decide (xs = ys) := by
    by_cases h : xs = ys
    · rw [decide_eq_true h]; exact hi.2 h
    · rw [decide_eq_false h]
      cases r with
      | false => rfl
      | true => exact absurd (hi.1 rfl) h
  rw [← e]
  exact hr
theorem eql_run {o : Oper} {fr : List Value} {x y : Operand} {t s : TypeId} {xs ys : List Value} {d : Nat} {ks : List Kd} (ho : o.op = .binOp .eql t x y s) (hx : Act.eval ⟨fr.toArray, []⟩ x = .agg xs.toArray) (hy : Act.eval ⟨fr.toArray, []⟩ y = .agg ys.toArray)
    (hm : isAggT P t = true) (hg : P.eqGuardType P.depth t = false) (hk : kindsOf P d t = some ks) (hd : d ≤ 10000) (fx : Fits ks xs) (fy : Fits ks ys) :
    ∃ r : Bool, (∀ w, (execOp (Act.eval ⟨fr.toArray, []⟩) o).run P w = .ok (.value (.bool r)) w) ∧ (r = true ↔ xs = ys) := by
  obtain ⟨r, h1, h2⟩ := equal_agg hm hk hd fx fy
  refine ⟨r, fun w => ?_, h2⟩
  unfold execOp
  rw [ho]
  simp only [hx, hy, Sem.run_bind, run_eqGuard_agg w .eql t x y xs.toArray ys.toArray hg, Result.andThen_ok, binOp]
  simp [h1]
theorem neq_run {o : Oper} {fr : List Value} {x y : Operand} {t s : TypeId} {xs ys : List Value} {d : Nat} {ks : List Kd} (ho : o.op = .binOp .neq t x y s) (hx : Act.eval ⟨fr.toArray, []⟩ x = .agg xs.toArray) (hy : Act.eval ⟨fr.toArray, []⟩ y = .agg ys.toArray)
    (hm : isAggT P t = true) (hg : P.eqGuardType P.depth t = false) (hk : kindsOf P d t = some ks) (hd : d ≤ 10000) (fx : Fits ks xs) (fy : Fits ks ys) :
    ∃ r : Bool, (∀ w, (execOp (Act.eval ⟨fr.toArray, []⟩) o).run P w = .ok (.value (.bool !r)) w) ∧ (r = true ↔ xs = ys) := by
  obtain ⟨r, h1, h2⟩ := equal_agg hm hk hd fx fy
  refine ⟨r, fun w => ?_, h2⟩
  unfold execOp
  rw [ho]
  simp only [hx, hy, Sem.run_bind, run_eqGuard_agg w .neq t x y xs.toArray ys.toArray hg, Result.andThen_ok, binOp]
  simp [h1]
section
variable {M : List Blk} {k : Kv} {pan : Kp}
theorem if_bool {r : Bool} {p : Prop} {K : Bool → Prop} (h2 : r = true ↔ p) (h : If p (K true) (K false)) : K r := by
  have h := h.out
  cases r with
  | true => exact h.1 (h2.1 rfl)
  | false => exact h.2 fun hp => by have := h2.2 hp; cases this
theorem if_bool_n {r : Bool} {p : Prop} {K : Bool → Prop} (h2 : r = true ↔ p) (h : If p (K false) (K true)) : K (!r) := by
  have h := h.out
  cases r with
  | true => exact h.1 (h2.1 rfl)
  | false => exact h.2 fun hp => by have := h2.2 hp; cases this
theorem agg_eql {o : Oper} {fr : List Value} {x y : Operand} {t s : TypeId} {xs ys : List Value} {d : Nat} {ks : List Kd} (hk : kindsOf P d t = some ks) (hd : d ≤ 10000) (ho : o.op = .binOp .eql t x y s) (hx : Act.eval ⟨fr.toArray, []⟩ x = .agg xs.toArray) (hy : Act.eval ⟨fr.toArray, []⟩ y = .agg ys.toArray)
    (hm : isAggT P t = true) (hg : P.eqGuardType P.depth t = false) (fx : Fits ks xs) (fy : Fits ks ys) (h : If (xs = ys) (k (.bool true) M) (k (.bool false) M)) : Runs P (execOp (Act.eval ⟨fr.toArray, []⟩) o) M k pan := by
  obtain ⟨r, h1, h2⟩ := eql_run ho hx hy hm hg hk hd fx fy
  exact Runs.val h1 (if_bool (K := fun b => k (.bool b) M) h2 h)
theorem agg_neq {o : Oper} {fr : List Value} {x y : Operand} {t s : TypeId} {xs ys : List Value} {d : Nat} {ks : List Kd} (hk : kindsOf P d t = some ks) (hd : d ≤ 10000) (ho : o.op = .binOp .neq t x y s) (hx : Act.eval ⟨fr.toArray, []⟩ x = .agg xs.toArray) (hy : Act.eval ⟨fr.toArray, []⟩ y = .agg ys.toArray)
    (hm : isAggT P t = true) (hg : P.eqGuardType P.depth t = false) (fx : Fits ks xs) (fy : Fits ks ys) (h : If (xs = ys) (k (.bool false) M) (k (.bool true) M)) : Runs P (execOp (Act.eval ⟨fr.toArray, []⟩) o) M k pan := by
  obtain ⟨r, h1, h2⟩ := neq_run ho hx hy hm hg hk hd fx fy
  exact Runs.val h1 (if_bool_n (K := fun b => k (.bool b) M) h2 h)
theorem qagg_eql {o : Oper} {fr : List Value} {x y : Operand} {t s : TypeId} {xs ys : List Value} {d : Nat} {ks : List Kd} (hk : kindsOf P d t = some ks) (hd : d ≤ 10000) (ho : o.op = .binOp .eql t x y s) (hx : Act.eval ⟨fr.toArray, []⟩ x = .agg xs.toArray) (hy : Act.eval ⟨fr.toArray, []⟩ y = .agg ys.toArray)
    (hm : isAggT P t = true) (hg : P.eqGuardType P.depth t = false) (fx : Fits ks xs) (fy : Fits ks ys) (h : If (xs = ys) (k (.bool true) M) (k (.bool false) M)) : QRuns P (execOp (Act.eval ⟨fr.toArray, []⟩) o) M k := by
  obtain ⟨r, h1, h2⟩ := eql_run ho hx hy hm hg hk hd fx fy
  exact (qt_sound P).val (pan := fun _ _ => False) _ h1 (if_bool (K := fun b => k (.bool b) M) h2 h)
theorem qagg_neq {o : Oper} {fr : List Value} {x y : Operand} {t s : TypeId} {xs ys : List Value} {d : Nat} {ks : List Kd} (hk : kindsOf P d t = some ks) (hd : d ≤ 10000) (ho : o.op = .binOp .neq t x y s) (hx : Act.eval ⟨fr.toArray, []⟩ x = .agg xs.toArray) (hy : Act.eval ⟨fr.toArray, []⟩ y = .agg ys.toArray)
    (hm : isAggT P t = true) (hg : P.eqGuardType P.depth t = false) (fx : Fits ks xs) (fy : Fits ks ys) (h : If (xs = ys) (k (.bool false) M) (k (.bool true) M)) : QRuns P (execOp (Act.eval ⟨fr.toArray, []⟩) o) M k := by
  obtain ⟨r, h1, h2⟩ := neq_run ho hx hy hm hg hk hd fx fy
  exact (qt_sound P).val (pan := fun _ _ => False) _ h1 (if_bool_n (K := fun b => k (.bool b) M) h2 h)

/-- A call that only reads: of blocks that are seen in what there is. -/
theorem call_ro {f : FuncId} {args : List Value} {N N' : List Blk} {v : Value} (h : Fnc P f args N (Ret v N')) (hro : ∀ b ∈ N, b.ro = true) (hv : ∀ A w0 w, St A w0 w M → Mem w N) (hk : k v M) : Cl P f args M k pan := by
  refine ⟨h.out.1, fun A w0 w st => ?_⟩
  refine (h.out.2 w (hv A w0 w st)).mono fun e w' ⟨A', s1, h1, _⟩ => ?_
  subst h1
  have hkeep : ∀ k, k < w.heap.size → w'.heap[k]? = w.heap[k]? := fun k hk => s1.keep k hk fun b hb hb' => by rw [hro b hb] at hb'; cases hb'
  refine ⟨M, ⟨s1.os.trans st.os, s1.tape.trans st.tape, s1.output.trans st.output, Nat.le_trans st.size s1.size, fun k hk hA => ?_, fun b hb => ?_, st.own, st.apart⟩, hk⟩
  · exact (hkeep k (Nat.lt_of_lt_of_le hk st.size)).trans (st.keep k hk hA)
  · have := st.has b hb
    exact this.same (hkeep _ this.lt)
/-- .. one block, of which all is known. -/
theorem call_lit {f : FuncId} {args : List Value} {n : Nat} {cs : List Value} {t : TypeId} {N' : List Blk} {v : Value} (h : Fnc P f args [⟨n, .ro 0 cs⟩] (Ret v N')) [hl : Look M n (.cells cs t)] (hk : k v M) : Cl P f args M k pan := by
  refine call_ro h (by simp [Blk.ro]) (fun A w0 w st => ⟨?_, List.pairwise_singleton _ _⟩) hk
  intro b hb
  simp only [List.mem_singleton] at hb
  subst hb
  have := st.has _ hl.mem
  refine ⟨this.lt, fun j v hj => ?_⟩
  simp only [Blk.holds] at this
  simpa [World.cell?, this] using hj
end
end
end Go.Proofs.Ytlmhagngbfcdkaa.Ev
