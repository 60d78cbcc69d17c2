/- The evaluator of the model's code, and the proof that what it comes to is what the machine does. -/
import Derived.Test.YtlmhagngbfcdkaaEv
namespace Go.Proofs.Ytlmhagngbfcdkaa.Ev
open Go
set_option linter.unusedVariables false
set_option linter.unusedSimpArgs false

abbrev Kv := Value → List Blk → Prop
abbrev Kp := List PanicEntry → List Blk → Prop
abbrev Ks := Exit → List Value → List Blk → Prop

/-! ### frames -/
noncomputable def getK (l : List Value) : Nat → (Value → Prop) → Prop :=
  List.rec (fun _ k => k undef) (fun v _ ih n k => match n with | 0 => k v | n + 1 => ih n k) l
noncomputable def setK (l : List Value) : Nat → Value → (List Value → Prop) → Prop :=
  List.rec (fun _ _ k => k []) (fun v t ih n x k => match n with | 0 => k (x :: t) | n + 1 => ih n x fun t' => k (v :: t')) l
noncomputable def forceL {α : Type} (l : List α) : (List α → Prop) → Prop :=
  List.rec (fun k => k []) (fun v _ ih k => ih fun t' => k (v :: t')) l
noncomputable def appK {α : Type} (l : List α) : List α → (List α → Prop) → Prop :=
  List.rec (fun m k => forceL m k) (fun v _ ih m k => ih m fun t' => k (v :: t')) l

theorem getK_eq : ∀ (l : List Value) (n : Nat) (k : Value → Prop), getK l n k = k (l.toArray.getD n undef)
  | v :: _, 0, k => by show k v = _; simp
  | _ :: t, n + 1, k => by show getK t n k = _; rw [getK_eq t n k]; simp
  | [], _, k => by show k undef = _; simp
theorem setK_eq : ∀ (l : List Value) (n : Nat) (x : Value) (k : List Value → Prop), setK l n x k = k (l.set n x)
  | _ :: t, 0, x, k => rfl
  | v :: t, n + 1, x, k => by show setK t n x _ = _; rw [setK_eq t n x]; rfl
  | [], _, _, k => rfl
theorem forceL_eq {α : Type} : ∀ (l : List α) (k : List α → Prop), forceL l k = k l
  | [], k => rfl
  | v :: t, k => by show forceL t _ = _; rw [forceL_eq t]
theorem appK_eq {α : Type} : ∀ (l m : List α) (k : List α → Prop), appK l m k = k (l ++ m)
  | [], l, k => forceL_eq l k
  | v :: t, l, k => by show appK t l _ = _; rw [appK_eq t]; rfl

noncomputable def evK (fr : List Value) (x : Operand) (k : Value → Prop) : Prop :=
  match x with
  | .tmp t => getK fr t k
  | .const v => k v
  | .global g => k (.pointer (some ⟨g, 0, none⟩))
  | .func f => k (.func (.func f) #[] #[])
theorem evK_eq (fr : List Value) (ds : List Deferred) (x : Operand) (k : Value → Prop) : evK fr x k = k (Act.eval ⟨fr.toArray, ds⟩ x) := by
  cases x <;> simp [evK, Act.eval, getK_eq]
noncomputable def evLK (fr : List Value) (l : List Operand) : (List Value → Prop) → Prop :=
  List.rec (fun k => k []) (fun x _ ih k => evK fr x fun v => ih fun l => k (v :: l)) l
theorem evLK_eq (fr : List Value) (ds : List Deferred) : ∀ (l : List Operand) (k : List Value → Prop), evLK fr l k = k (l.map (Act.eval ⟨fr.toArray, ds⟩))
  | [], k => rfl
  | x :: t, k => by show evK fr x (fun v => evLK fr t fun l => k (v :: l)) = _; rw [evK_eq fr ds, evLK_eq fr ds t]; rfl

/-! ### what one operation asks -/
def PostN (P : Program) (Kn : Value → World → Prop) (Kpn : List PanicEntry → World → Prop) : Result Next → Prop
  | .ok (.value v) w => Kn v w
  | .ok .skip w => Kn undef w
  | .ok (.enter f args) w => Calls P f args w fun
      | .returned v, w' => Kn v w'
      | .panicked ch, w' => Kpn ch w'
      | .outgrown, _ => False
  | .halt (.panic v) w => Kpn [{ v, recovered := false }] w
  | _ => False

structure Runs (P : Program) (s : Sem Next) (M : List Blk) (k : Kv) (pan : Kp) : Prop where
  out : ∀ A w0 w, St A w0 w M → PostN P (fun v w' => ∃ M', St A w0 w' M' ∧ k v M') (fun ch w' => ∃ M', St A w0 w' M' ∧ pan ch M') (s.run P w)
/-- A value's run as an operation's. -/
def VS (s : Sem Value) : Sem Next := do pure (.value (← s))

/- These are structures, not plain definitions, so that the kernel stops at them as the walk does. -/
structure Wr (kd : IntKind) (z : Int) (K : Int → Prop) : Prop where
  out : K (kd.wrap z)
structure Zv (z : Int) (K : Int → Prop) : Prop where
  out : K z
structure Nv (z : Nat) (K : Nat → Prop) : Prop where
  out : K z
structure Sv (z : ByteArray) (K : ByteArray → Prop) : Prop where
  out : K z
structure Need (p A : Prop) : Prop where
  out : p ∧ A
structure If (p A B : Prop) : Prop where
  out : (p → A) ∧ (¬ p → B)
structure Ld1 (M : List Blk) (b off : Nat) (k : Value → Prop) : Prop where
  out : ∀ A w0 w, St A w0 w M → ∃ v, w.cell? ⟨b, off, none⟩ = some v ∧ k v
structure LdN (M : List Blk) (b off n : Nat) (k : List Value → Prop) : Prop where
  out : ∀ A w0 w, St A w0 w M → ∃ vs : List Value, vs.length = n ∧ (∀ j v, vs[j]? = some v → w.cell? ⟨b, off + j, none⟩ = some v) ∧ k vs
structure StN (P : Program) (M : List Blk) (b off : Nat) (vs : List Value) (k : List Blk → Prop) : Prop where
  out : ∀ A w0 w, St A w0 w M → ∃ w' M', (storeCells ⟨b, off, none⟩ vs 0).run P w = .ok () w' ∧ St A w0 w' M' ∧ k M'
def enters (P : Program) (f : FuncId) : Bool :=
  match P.funcs[f]? with
  | some fn => fn.name != "runtime.NumGoroutine" && fn.body.isSome
  | none => false
structure Cl (P : Program) (f : FuncId) (args : List Value) (M : List Blk) (k : Kv) (pan : Kp) : Prop where
  out : enters P f = true ∧ ∀ A w0 w, St A w0 w M → Calls P f args.toArray w fun
    | .returned v, w' => ∃ M', St A w0 w' M' ∧ k v M'
    | .panicked ch, w' => ∃ M', St A w0 w' M' ∧ pan ch M'
    | .outgrown, _ => False

theorem wr {kd : IntKind} {z : Int} {K : Int → Prop} (h : ∀ z', z' = kd.wrap z → K z') : Wr kd z K := ⟨h _ rfl⟩
theorem zv {z : Int} {K : Int → Prop} (h : ∀ z', z' = z → K z') : Zv z K := ⟨h _ rfl⟩
theorem nv {z : Nat} {K : Nat → Prop} (h : ∀ z', z' = z → K z') : Nv z K := ⟨h _ rfl⟩
theorem sv {z : ByteArray} {K : ByteArray → Prop} (h : ∀ z', z' = z → K z') : Sv z K := ⟨h _ rfl⟩
theorem need {p A : Prop} (h : p) (ha : A) : Need p A := ⟨⟨h, ha⟩⟩
theorem ifs {p A B : Prop} (h1 : p → A) (h2 : ¬ p → B) : If p A B := ⟨⟨h1, h2⟩⟩
theorem ift {p A B : Prop} (h : p) (h1 : A) : If p A B := ⟨⟨fun _ => h1, fun hn => absurd h hn⟩⟩
theorem iff' {p A B : Prop} (h : ¬ p) (h1 : B) : If p A B := ⟨⟨fun hn => absurd hn h, fun _ => h1⟩⟩

section
variable {P : Program} {M : List Blk} {k : Kv} {pan : Kp}
theorem Runs.val {s : Sem Next} {v : Value} (h : ∀ w, s.run P w = .ok (.value v) w) (hk : k v M) : Runs P s M k pan := by
  refine ⟨fun A w0 w st => ?_⟩
  rw [h w]
  exact ⟨M, st, hk⟩
theorem Runs.vs {s : Sem Value} {v : Value} (h : ∀ w, s.run P w = .ok v w) (hk : k v M) : Runs P (VS s) M k pan :=
  Runs.val (fun w => by simp [VS, h]) hk
theorem Runs.congr {s s' : Sem Next} (h : ∀ w, s.run P w = s'.run P w) (hr : Runs P s' M k pan) : Runs P s M k pan := by
  refine ⟨fun A w0 w st => ?_⟩
  rw [h w]
  exact hr.out A w0 w st
end

/-- An operation's wp out of what it asks. -/
theorem wp_of_runs {P : Program} {M : List Blk} {k : Kv} {pan : Kp} {o : Oper} {a : Act} (h : Runs P (execOp a.eval o) M k pan) {A : List Blk} {w0 w : World} (st : St A w0 w M)
    {next : Act → World → Prop} {Q : Exit → Act → World → Prop} (h1 : ∀ v w' M', St A w0 w' M' → k v M' → next (a.put o.dst v) w') (h2 : ∀ ch w' M', St A w0 w' M' → pan ch M' → Q (.panic ch) a w') :
    o.wp P a w next Q := by
  have h3 := h.out A w0 w st
  unfold Oper.wp
  generalize (execOp a.eval o).run P w = r at *
  cases r with
  | ok n w' =>
    cases n with
    | value v => obtain ⟨M', s, hk⟩ := h3; exact h1 v w' M' s hk
    | skip => obtain ⟨M', s, hk⟩ := h3; exact h1 undef w' M' s hk
    | enter f args =>
      refine Calls.mono h3 fun e w'' he => ?_
      cases e with
      | returned v => obtain ⟨M', s, hk⟩ := he; exact h1 v w'' M' s hk
      | panicked ch => obtain ⟨M', s, hk⟩ := he; exact h2 ch w'' M' s hk
      | outgrown => exact he.elim
    | _ => exact h3.elim
  | halt x w' =>
    cases x with
    | panic v => obtain ⟨M', s, hk⟩ := h3; exact h2 _ w' M' s hk
    | _ => exact h3.elim

/-! ### modes: what an operation's effects ask -/
structure Md where
  ld1 : List Blk → Nat → Nat → (Value → Prop) → Prop
  ldN : List Blk → Nat → Nat → Nat → (List Value → Prop) → Prop
  stN : List Blk → Nat → Nat → List Value → (List Blk → Prop) → Prop
  nw : List Value → TypeId → List Blk → (Nat → List Blk → Prop) → Prop
  cl : FuncId → List Value → List Blk → Kv → Kp → Prop
  runs : Sem Next → List Blk → Kv → Kp → Prop
  pan : Prop → Prop

structure Md.Sound (P : Program) (md : Md) : Prop where
  val : ∀ {s M k pan} (v : Value), (∀ w, s.run P w = .ok (.value v) w) → k v M → md.runs s M k pan
  congr : ∀ {s s' : Sem Next} {M k pan}, (∀ w, s.run P w = s'.run P w) → md.runs s' M k pan → md.runs s M k pan
  ld1 : ∀ {s M b off k pan}, md.ld1 M b off (fun v => k v M) → (∀ v w, w.cell? ⟨b, off, none⟩ = some v → s.run P w = .ok (.value v) w) → md.runs s M k pan
  ldN : ∀ {s M b off n k pan}, md.ldN M b off n (fun vs => k (.agg vs.toArray) M) →
    (∀ (vs : List Value) w, vs.length = n → (∀ j v, vs[j]? = some v → w.cell? ⟨b, off + j, none⟩ = some v) → s.run P w = .ok (.value (.agg vs.toArray)) w) → md.runs s M k pan
  stN : ∀ {s M b off vs k pan}, md.stN M b off vs (fun M' => k undef M') → (∀ w w', (storeCells ⟨b, off, none⟩ vs 0).run P w = .ok () w' → s.run P w = .ok .skip w') → md.runs s M k pan
  nw : ∀ {s M cs e k pan} (vf : Nat → Value), md.nw cs e M (fun n M' => k (vf n) M') →
    (∀ w, s.run P w = .ok (.value (vf w.heap.size)) { w with heap := w.heap.push (.cells cs.toArray e) }) → md.runs s M k pan
  cl : ∀ {s M g l k pan}, md.cl g l M k pan → (enters P g = true → ∀ w, s.run P w = .ok (.enter g l.toArray) w) → md.runs s M k pan
  pan : ∀ {s M v k pan}, md.pan (pan [{ v := v, recovered := false }] M) → (∀ w, s.run P w = .halt (.panic v) w) → md.runs s M k pan

/-! ### the evaluator of an operation -/
def ikEq (a b : IntKind) : Bool := decide (a = b)

def binK (P : Program) (op : BinOp) (t : TypeId) (x y : Value) (M : List Blk) (k : Kv) (other : Prop) : Prop :=
  match x, y with
  | .int kx a, .int ky b =>
    match op with
    | .shl => Need (0 ≤ b) (Wr kx (a * 2 ^ min b.toNat kx.bits) fun z => k (.int kx z) M)
    | .shr => Need (0 ≤ b) (Zv (a.fdiv (2 ^ min b.toNat kx.bits)) fun z => k (.int kx z) M)
    | _ =>
      match ikEq kx ky with
      | false => other
      | true =>
        match op with
        | .add => Wr kx (a + b) fun z => k (.int kx z) M
        | .sub => Wr kx (a - b) fun z => k (.int kx z) M
        | .mul => Wr kx (a * b) fun z => k (.int kx z) M
        | .quo => Need (b ≠ 0) (Wr kx (a.tdiv b) fun z => k (.int kx z) M)
        | .rem => Need (b ≠ 0) (Zv (a.tmod b) fun z => k (.int kx z) M)
        | .lss => If (a < b) (k (.bool true) M) (k (.bool false) M)
        | .leq => If (a ≤ b) (k (.bool true) M) (k (.bool false) M)
        | .gtr => If (b < a) (k (.bool true) M) (k (.bool false) M)
        | .geq => If (b ≤ a) (k (.bool true) M) (k (.bool false) M)
        | .eql => If (a = b) (k (.bool true) M) (k (.bool false) M)
        | .neq => If (a = b) (k (.bool false) M) (k (.bool true) M)
        | .and => Wr kx (BitVec.ofInt kx.bits a &&& BitVec.ofInt kx.bits b).toNat fun z => k (.int kx z) M
        | .or => Wr kx (BitVec.ofInt kx.bits a ||| BitVec.ofInt kx.bits b).toNat fun z => k (.int kx z) M
        | .xor => Wr kx (BitVec.ofInt kx.bits a ^^^ BitVec.ofInt kx.bits b).toNat fun z => k (.int kx z) M
        | .andNot => Wr kx (BitVec.ofInt kx.bits a &&& ~~~ BitVec.ofInt kx.bits b).toNat fun z => k (.int kx z) M
        | _ => other
  | .string a, .string b =>
    match op with
    | .add => Need (((a.size + b.size : Nat) : Int) ≤ IntKind.i64.max) (Sv (a ++ b) fun s => k (.string s) M)
    | .eql => If (a = b) (k (.bool true) M) (k (.bool false) M)
    | .neq => If (a = b) (k (.bool false) M) (k (.bool true) M)
    | .lss => If (Op.bytesLess a.toList b.toList = true) (k (.bool true) M) (k (.bool false) M)
    | .leq => If ((Op.bytesLess a.toList b.toList || a.toList == b.toList) = true) (k (.bool true) M) (k (.bool false) M)
    | .gtr => If ((Op.bytesLess a.toList b.toList || a.toList == b.toList) = true) (k (.bool false) M) (k (.bool true) M)
    | .geq => If (Op.bytesLess a.toList b.toList = true) (k (.bool false) M) (k (.bool true) M)
    | _ => other
  | .bool a, .bool b =>
    match P.underlying t with
    | some .bool =>
      match op with
      | .eql => (match a, b with | true, true => k (.bool true) M | false, false => k (.bool true) M | _, _ => k (.bool false) M)
      | .neq => (match a, b with | true, true => k (.bool false) M | false, false => k (.bool false) M | _, _ => k (.bool true) M)
      | _ => other
    | _ => other
  | .pointer a, .pointer b =>
    match P.underlying t with
    | some (.pointer _) =>
      match op, a, b with
      | .eql, none, none => k (.bool true) M
      | .eql, none, some _ => k (.bool false) M
      | .eql, some _, none => k (.bool false) M
      | .neq, none, none => k (.bool false) M
      | .neq, none, some _ => k (.bool true) M
      | .neq, some _, none => k (.bool true) M
      | _, _, _ => other
    | _ => other
  | _, _ => other

theorem toList_beq (a b : ByteArray) : (a.toList == b.toList) = decide (a = b) := by
  rw [Bool.eq_iff_iff, beq_iff_eq, decide_eq_true_eq]
  constructor
  · intro h
    exact ByteArray.ext (by rw [← Array.toList_inj]; simpa [ByteArray.toList_eq] using h)
  · rintro rfl; rfl
end Go.Proofs.Ytlmhagngbfcdkaa.Ev
