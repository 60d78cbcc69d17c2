import Derived.Test.YtlmhagngbfcdkaaEw
namespace Go.Proofs.Ytlmhagngbfcdkaa.Ev
open Go
set_option linter.unusedVariables false
set_option linter.unusedSimpArgs false
section
variable {P : Program} {M : List Blk} {k : Kv} {pan : Kp}

theorem wr_out {kd : IntKind} {z : Int} {K : Int → Prop} (h : Wr kd z K) : K (kd.wrap z) := h.out
theorem zv_out {z : Int} {K : Int → Prop} (h : Zv z K) : K z := h.out
theorem nv_out {z : Nat} {K : Nat → Prop} (h : Nv z K) : K z := h.out
theorem sv_out {z : ByteArray} {K : ByteArray → Prop} (h : Sv z K) : K z := h.out
theorem need_out {p A : Prop} (h : Need p A) : p ∧ A := h.out
theorem if_out {p : Prop} [Decidable p] {x y : Bool} {K : Bool → Prop} (h : If p (K x) (K y)) : K (if p then x else y) := by
  have h := h.out
  by_cases hp : p
  · rw [if_pos hp]; exact h.1 hp
  · rw [if_neg hp]; exact h.2 hp

theorem if_t {p : Prop} [Decidable p] {K : Bool → Prop} (h : If p (K true) (K false)) : K (decide p) := by
  have h := h.out
  by_cases hp : p
  · rw [decide_eq_true hp]; exact h.1 hp
  · rw [decide_eq_false hp]; exact h.2 hp
theorem if_f {p : Prop} [Decidable p] {K : Bool → Prop} (h : If p (K false) (K true)) : K (!decide p) := by
  have h := h.out
  by_cases hp : p
  · rw [decide_eq_true hp]; exact h.1 hp
  · rw [decide_eq_false hp]; exact h.2 hp
theorem eql_eq (a b : Int) : (a == b) = decide (a = b) := by by_cases q : a = b <;> simp [q]
theorem neq_eq (a b : Int) : (a != b) = !decide (a = b) := by by_cases q : a = b <;> simp [q]
theorem guard_int (op : BinOp) (t : TypeId) (ox oy : Operand) (k1 k2 : IntKind) (a b : Int) (w : World) : (eqGuard op t ox oy (.int k1 a) (.int k2 b)).run P w = .ok () w := by
  unfold eqGuard; cases op <;> rfl
theorem guard_string (op : BinOp) (t : TypeId) (ox oy : Operand) (a b : ByteArray) (w : World) : (eqGuard op t ox oy (.string a) (.string b)).run P w = .ok () w := by
  unfold eqGuard; cases op <;> rfl
theorem guard_bool (op : BinOp) (t : TypeId) (ox oy : Operand) (a b : Bool) (w : World) : (eqGuard op t ox oy (.bool a) (.bool b)).run P w = .ok () w := by
  unfold eqGuard; cases op <;> rfl
theorem guard_ptr (op : BinOp) (t : TypeId) (ox oy : Operand) (a b : Option Addr) (w : World) : (eqGuard op t ox oy (.pointer a) (.pointer b)).run P w = .ok () w := by
  unfold eqGuard; cases op <;> rfl

theorem bin_int {md : Md} (sd : md.Sound P) {op : BinOp} {t : TypeId} {kx ky : IntKind} {a b : Int} {other : Prop} {s : Sem Next} (ho : other → md.runs s M k pan) (h : binK P op t (.int kx a) (.int ky b) M k other)
    (hs : ∀ v : Value, (∀ w, (binOp op t (.int kx a) (.int ky b)).run P w = .ok v w) → ∀ w, s.run P w = .ok (.value v) w) : md.runs s M k pan := by
  unfold binK at h
  cases op
  case shl =>
    obtain ⟨h1, h2⟩ := need_out h
    exact sd.val _ (hs _ fun w => by have : ¬ b < 0 := by omega
                                     simp [binOp, Op.shift, this]) (wr_out h2)
  case shr =>
    obtain ⟨h1, h2⟩ := need_out h
    exact sd.val _ (hs _ fun w => by have : ¬ b < 0 := by omega
                                     simp [binOp, Op.shift, this]) (zv_out h2)
  all_goals
    simp only at h
    cases hk : ikEq kx ky with
    | false => rw [hk] at h; exact ho h
    | true =>
      rw [hk] at h
      have e : kx = ky := of_decide_eq_true hk
      subst e
      simp only at h
      first
        | exact ho h
        | exact sd.val _ (hs _ fun w => by simp [binOp, Op.intArith, Op.intBits]) (wr_out h)
        | (obtain ⟨h1, h2⟩ := need_out h
           exact sd.val _ (hs _ fun w => by simp [binOp, Op.intDiv, h1]) (wr_out h2))
        | (obtain ⟨h1, h2⟩ := need_out h
           exact sd.val _ (hs _ fun w => by simp [binOp, Op.intDiv, h1]) (zv_out h2))
        | (refine sd.val _ (hs _ fun w => ?_) (if_t (K := fun b => k (.bool b) M) h); simp [binOp, Op.intCmp, eql_eq]; done)
        | (refine sd.val _ (hs _ fun w => ?_) (if_f (K := fun b => k (.bool b) M) h); simp [binOp, Op.intCmp, neq_eq]; done)
end
end Go.Proofs.Ytlmhagngbfcdkaa.Ev
