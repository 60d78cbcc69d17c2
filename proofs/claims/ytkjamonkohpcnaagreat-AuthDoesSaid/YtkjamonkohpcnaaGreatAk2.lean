/- Texts of this proof, merged. -/
import Derived.Test.YtkjamonkohpcnaaGreatAk1
set_option linter.unusedVariables false
set_option linter.unusedSimpArgs false
set_option linter.unusedSectionVars false
set_option maxRecDepth 100000
set_option maxHeartbeats 16000000
namespace Go.Proofs.YtkjamonkohpcnaaGreat
namespace Ev
open Go
def byteAt (s : ByteArray) (n : Nat) : Int := ((s.data.toList[n]?).getD 0).toNat
noncomputable def cellsK (v : Value) (k : List Value → Prop) : Prop :=
 match v with
 | .agg cs => forceL cs.toList k
 | .bool b => k [.bool b]
 | .int kd n => k [.int kd n]
 | .float kd n => k [.float kd n]
 | .complex kd a b => k [.complex kd a b]
 | .string s => k [.string s]
 | .pointer a => k [.pointer a]
 | .slice a l c => k [.slice a l c]
 | .map r => k [.map r]
 | .chan r => k [.chan r]
 | .func f a b => k [.func f a b]
 | .nilFunc => k [.nilFunc]
 | .iface t v => k [.iface t v]
 | .nilIface => k [.nilIface]
 | .tuple vs => k [.tuple vs]
theorem cellsK_eq (v : Value) (k : List Value → Prop) : cellsK v k = k v.cells.toList := by
 cases v <;> simp [cellsK, Value.cells, forceL_eq]
noncomputable def getOK {α : Type} (l : List α) : Nat → (α → Prop) → Prop :=
 List.rec (fun _ _ => False) (fun v _ ih n k => match n with | 0 => k v | n + 1 => ih n k) l
theorem getOK_out {α : Type} : ∀ {l : List α} {n : Nat} {k : α → Prop}, getOK l n k → ∃ v, l[n]? = some v ∧ k v
 | v :: _, 0, k, h => ⟨v, rfl, h⟩
 | _ :: t, n + 1, k, h => by obtain ⟨v, h1, h2⟩ := getOK_out (l := t) (n := n) (k := k) h; exact ⟨v, by simpa using h1, h2⟩
noncomputable def takeK (l : List Value) : Nat → (List Value → Prop) → Prop :=
 List.rec (fun n k => match n with | 0 => k [] | _ + 1 => False) (fun v _ ih n k => match n with | 0 => k [] | n + 1 => ih n fun l => k (v :: l)) l
noncomputable def dropK (l : List Value) : Nat → (List Value → Prop) → Prop :=
 List.rec (fun n k => match n with | 0 => k [] | _ + 1 => False) (fun v t ih n k => match n with | 0 => k (v :: t) | n + 1 => ih n k) l
theorem takeK_out : ∀ {l : List Value} {n : Nat} {k : List Value → Prop}, takeK l n k → k (l.take n) ∧ n ≤ l.length
 | [], 0, k, h => ⟨h, Nat.zero_le _⟩
 | _ :: _, 0, k, h => ⟨h, Nat.zero_le _⟩
 | v :: t, n + 1, k, h => by have := takeK_out (l := t) (n := n) (k := fun l => k (v :: l)) h; exact ⟨by simpa using this.1, by simpa using this.2⟩
theorem dropK_out : ∀ {l : List Value} {n : Nat} {k : List Value → Prop}, dropK l n k → k (l.drop n) ∧ n ≤ l.length
 | [], 0, k, h => ⟨h, Nat.zero_le _⟩
 | _ :: _, 0, k, h => ⟨h, Nat.zero_le _⟩
 | _ :: t, n + 1, k, h => by have := dropK_out (l := t) (n := n) (k := k) h; exact ⟨by simpa using this.1, by simpa using this.2⟩
noncomputable def partK (P : Program) (t : TypeId) (cs : List Value) (off : Nat) (k : Value → Prop) (other : Prop) : Prop :=
 match P.info? t, P.underlying t with
 | some i, some (.struct _) => dropK cs off fun l => takeK l i.size fun l => k (.agg l.toArray)
 | some i, some (.array _ _) => dropK cs off fun l => takeK l i.size fun l => k (.agg l.toArray)
 | some _, some _ => getOK cs off k
 | _, _ => other
def biK (P : Program) (b : Builtin) (ts : List TypeId) (l : List Value) (M : List Blk) (k : Kv) (other : Prop) : Prop :=
 match b, ts, l with
 | .len, t :: _, x :: _ =>
   match P.underlying t, x with
   | some .string, .string s => k (.int .i64 s.size) M
   | some (.slice _), .slice _ n _ => k (.int .i64 n) M
   | some (.array n _), _ => k (.int .i64 n) M
   | some (.map _ _), .map none => k (.int .i64 0) M
   | _, _ => other
 | .min, _, [.int kd x, .int _ y] => If (y < x) (k (.int kd y) M) (k (.int kd x) M)
 | .max, _, [.int kd x, .int _ y] => If (x < y) (k (.int kd y) M) (k (.int kd x) M)
 | _, _, _ => other
def bS (b : Builtin) (ts : Array TypeId) (ty : TypeId) (l : Array Value) : Option (Sem Value) :=
 match b with
 | .len => some (Builtin.len_ ts ty l)
 | .delete => some (Builtin.delete_ ts ty l)
 | .clear => some (Builtin.clear_ ts ty l)
 | _ => none
def US (s : Sem Unit) : Sem Next := do s; pure .skip
noncomputable def spliceK (l : List Value) : Nat → List Value → (List Value → Prop) → Prop :=
 List.rec (fun n vs k => match n, vs with | 0, [] => k [] | _, _ => False) (fun u t ih n vs k => match n with
  | 0 => (match vs with | [] => k (u :: t) | v :: vs => ih 0 vs fun l => k (v :: l))
  | n + 1 => ih n vs fun l => k (u :: l)) l
theorem spliceK_out : ∀ {l : List Value} {n : Nat} {vs : List Value} {k : List Value → Prop}, spliceK l n vs k → k (l.take n ++ vs ++ l.drop (n + vs.length)) ∧ n + vs.length ≤ l.length
 | [], 0, [], k, h => ⟨h, Nat.le_refl _⟩
 | [], 0, _ :: _, k, h => h.elim
 | [], _ + 1, [], k, h => h.elim
 | [], _ + 1, _ :: _, k, h => h.elim
 | _ :: _, 0, [], k, h => ⟨h, Nat.zero_le _⟩
 | _ :: t, 0, v :: vs, k, h => by
   have := spliceK_out (l := t) (n := 0) (vs := vs) (k := fun l => k (v :: l)) h
   refine ⟨by simpa using this.1, by have := this.2; simp at this ⊢; omega⟩
 | u :: t, n + 1, vs, k, h => by
   have := spliceK_out (l := t) (n := n) (vs := vs) (k := fun l => k (u :: l)) h
   refine ⟨?_, by have := this.2; simp; omega⟩
   have h1 := this.1
   have e : n + 1 + vs.length = (n + vs.length) + 1 := by omega
   rw [e]
   simpa using h1
noncomputable def bldK (fr : List Value) (place : Nat → Option (Nat × Nat)) (parts : List (Nat × Operand)) : List Value → (List Value → Prop) → Prop :=
 List.rec (fun cs k => k cs) (fun p _ ih cs k => match p with
  | (i, x) => evK fr x fun v => cellsK v fun vs => match place i with
    | some (off, size) => (match Nat.beq vs.length size with | true => spliceK cs off vs fun cs' => ih cs' k | false => False)
    | none => False) parts
structure Bld (fr : List Value) (place : Nat → Option (Nat × Nat)) (parts : List (Nat × Operand)) (cs : List Value) (k : List Value → Prop) : Prop where
 out : ∃ cs' : List Value, Instr.fill place cs.toArray (parts.map fun x => (x.1, Act.eval ⟨fr.toArray, []⟩ x.2)) = some cs'.toArray ∧ k cs'
noncomputable def allInfo (P : Program) (l : List Field) : Bool := List.rec true (fun f _ ih => match P.info? f.type with | some _ => ih | none => false) l
def placeS (P : Program) (fields : Array Field) (i : Nat) : Option (Nat × Nat) :=
 match fields[i]? with
 | some ⟨_, ty, fo, _, _, _, _⟩ => (match P.info? ty with | some i => some (fo, i.size) | none => none)
 | none => none
noncomputable def repK (zs : List Value) (len : Nat) : List Value → (List Value → Prop) → Prop :=
 Nat.rec (fun acc k => k acc) (fun _ ih acc k => appK zs acc fun acc' => ih acc' k) len
noncomputable def optK (fr : List Value) (x : Option Operand) (d : Int) (k : Int → Prop) (other : Prop) : Prop :=
 match x with
 | none => k d
 | some x => evK fr x fun v => match v with | .int _ z => k z | _ => other
def gen (md : Md) (fr : List Value) (o : Oper) (M : List Blk) (k : Kv) (pan : Kp) : Prop := md.runs (execOp (Act.eval ⟨fr.toArray, []⟩) o) M k pan
noncomputable def opK (md : Md) (P : Program) (fr : List Value) (M : List Blk) (o : Oper) (k : Kv) (pan : Kp) : Prop :=
 match o.op with
 | .move x => evK fr x fun v => k v M
 | .assign x => evK fr x fun v => k v M
 | .pick c a b => evK fr c fun cv =>
   match cv with
   | .bool true => evK fr a fun v => k v M
   | .bool false => evK fr b fun v => k v M
   | _ => gen md fr o M k pan
 | .alloc e =>
   match P.info? e with
   | some i => (match i.zero with | some z => cellsK z fun cs => md.nw cs e M fun n M' => k (.pointer (some ⟨n, 0, none⟩)) M' | none => gen md fr o M k pan)
   | none => gen md fr o M k pan
 | .box e x => evK fr x fun v => cellsK v fun cs => md.nw cs e M fun n M' => k (.pointer (some ⟨n, 0, none⟩)) M'
 | .load t a => evK fr a fun av =>
   match av with
   | .pointer (some ⟨b, off, none⟩) =>
     (match P.info? t, P.underlying t with
     | some i, some (.struct _) => md.ldN M b off i.size fun vs => k (.agg vs.toArray) M
     | some i, some (.array _ _) => md.ldN M b off i.size fun vs => k (.agg vs.toArray) M
     | some _, some _ => md.ld1 M b off fun v => k v M
     | _, _ => gen md fr o M k pan)
   | _ => gen md fr o M k pan
 | .store t a x => evK fr a fun av => evK fr x fun xv =>
   match av with
   | .pointer (some ⟨b, off, none⟩) =>
     (match P.info? t with
     | some i => cellsK xv fun vs => Need (vs.length = i.size) (md.stN M b off vs fun M' => k undef M')
     | none => gen md fr o M k pan)
   | _ => gen md fr o M k pan
 | .nilCheck x => evK fr x fun v =>
   match v with
   | .pointer (some a) => k (.pointer (some a)) M
   | .func (.func f) a b => k (.func (.func f) a b) M
   | _ => gen md fr o M k pan
 | .binOp op t x y _ => evK fr x fun xv => evK fr y fun yv => binK P op t xv yv M k (gen md fr o M k pan)
 | .unOp op _ x => evK fr x fun v =>
   match op, v with
   | .not, .bool true => k (.bool false) M
   | .not, .bool false => k (.bool true) M
   | .neg, .int kd n => Wr kd (0 - n) fun z => k (.int kd z) M
   | .xor, .int kd n => Wr kd (BitVec.ofInt kd.bits (if kd.signed then -1 else kd.max) ^^^ BitVec.ofInt kd.bits n).toNat fun z => k (.int kd z) M
   | _, _ => gen md fr o M k pan
 | .convert s d x => evK fr x fun v =>
   match P.underlying s, P.underlying d, v with
   | some _, some (.int kd), .int _ n => Wr kd n fun z => k (.int kd z) M
   | some _, some .string, .string b => k (.string b) M
   | _, _, v => md.runs (VS (convert s d v)) M k pan
 | .makeFunc fn f c => evLK fr f.toList fun fs => evLK fr c.toList fun cs => k (.func fn fs.toArray cs.toArray) M
 | .fieldAddr s x f => evK fr x fun v =>
   match P.underlying s, v with
   | some (.struct fields), .pointer (some ⟨b, off, none⟩) =>
     (match fields[f]? with
     | some ⟨_, ty, fo, _, _, _, _⟩ => (match P.info? ty with
       | some i => (match i.size with | 0 => gen md fr o M k pan | _ + 1 => k (.pointer (some ⟨b, off + fo, none⟩)) M)
       | none => gen md fr o M k pan)
     | none => gen md fr o M k pan)
   | _, _ => gen md fr o M k pan
 | .field t x f => evK fr x fun v =>
   match P.underlying t, v with
   | some (.struct fields), .agg cs =>
     (match fields[f]? with
     | some ⟨_, ty, fo, _, _, _, _⟩ => partK P ty cs.toList fo (fun v => k v M) (gen md fr o M k pan)
     | none => gen md fr o M k pan)
   | _, _ => gen md fr o M k pan
 | .indexAddr t x i => evK fr x fun v => evK fr i fun iv =>
   match iv, P.underlying t, v with
   | .int _ z, some (.array len e), .pointer (some ⟨b, off, none⟩) =>
     (match P.info? e with
     | some ⟨_, _, sz, _, _, _, _, _, _, _⟩ => Need (0 ≤ z ∧ z < len) (Nv (off + z.toNat * sz) fun q => k (.pointer (some ⟨b, q, none⟩)) M)
     | none => gen md fr o M k pan)
   | .int _ z, some (.slice e), .slice (some ⟨b, off, none⟩) len _ =>
     (match P.info? e with
     | some ⟨_, _, sz, _, _, _, _, _, _, _⟩ => Need (0 ≤ z ∧ z < len) (Nv (off + z.toNat * sz) fun q => k (.pointer (some ⟨b, q, none⟩)) M)
     | none => gen md fr o M k pan)
   | _, _, _ => gen md fr o M k pan
 | .index t x i => evK fr x fun v => evK fr i fun iv =>
   match iv, P.underlying t, v with
   | .int _ z, some .string, .string s => Need (0 ≤ z ∧ z < s.size) (Zv (byteAt s z.toNat) fun q => k (.int .u8 q) M)
   | .int _ z, some (.array len e), .agg cs =>
     (match P.info? e with
     | some ⟨_, _, sz, _, _, _, _, _, _, _⟩ => Need (0 ≤ z ∧ z < len) (Nv (z.toNat * sz) fun q => partK P e cs.toList q (fun v => k v M) (gen md fr o M k pan))
     | none => gen md fr o M k pan)
   | _, _, _ => gen md fr o M k pan
 | .extract t ix => evK fr t fun v =>
   match v with
   | .tuple vs => getOK vs.toList ix fun v => k v M
   | _ => gen md fr o M k pan
 | .slice t x lo hi none => evK fr x fun v =>
   match P.underlying t, v with
   | some .string, .string s => optK fr lo 0 (fun l => optK fr hi s.size (fun h =>
      Need (0 ≤ l ∧ l ≤ h ∧ h ≤ s.size) (Sv (s.extract l.toNat h.toNat) fun s' => k (.string s') M)) (gen md fr o M k pan)) (gen md fr o M k pan)
   | some (.slice e), .slice (some ⟨b, off, none⟩) len cap => (match P.info? e with
     | some ⟨_, _, sz, _, _, _, _, _, _, _⟩ => optK fr lo 0 (fun l => optK fr hi len (fun h =>
       Need (0 ≤ l ∧ l ≤ h ∧ h ≤ cap) (Nv (if cap = l.toNat then off else off + l.toNat * sz) fun q => Nv (h.toNat - l.toNat) fun n => Nv (cap - l.toNat) fun c =>
        k (.slice (some ⟨b, q, none⟩) n c) M)) (gen md fr o M k pan)) (gen md fr o M k pan)
     | none => gen md fr o M k pan)
   | some (.array m e), .pointer (some ⟨b, off, none⟩) => (match P.info? e with
     | some ⟨_, _, sz, _, _, _, _, _, _, _⟩ => optK fr lo 0 (fun l => optK fr hi m (fun h =>
       Need (0 ≤ l ∧ l ≤ h ∧ h ≤ m) (Nv (if m = l.toNat then off else off + l.toNat * sz) fun q => Nv (h.toNat - l.toNat) fun n => Nv (m - l.toNat) fun c =>
        k (.slice (some ⟨b, q, none⟩) n c) M)) (gen md fr o M k pan)) (gen md fr o M k pan)
     | none => gen md fr o M k pan)
   | _, _ => gen md fr o M k pan
 | .panic x => evK fr x fun v =>
   match v with
   | .iface t u => md.pan (pan [{ v := .iface t u, recovered := false }] M)
   | _ => gen md fr o M k pan
 | .call c =>
   match c.callee with
   | .value f => evK fr f fun fv => evLK fr c.args.toList fun l =>
     (match fv with
     | .func (.func g) first cap => appK first.toList l fun l1 => appK l1 cap.toList fun l2 => md.cl g l2 M k pan
     | _ => gen md fr o M k pan)
   | .builtin .append => evLK fr c.args.toList fun l => md.runs (VS (Builtin.append_ c.argTypes o.type l.toArray)) M k pan
   | .builtin .copy => evLK fr c.args.toList fun l => md.runs (VS (Builtin.copy_ c.argTypes o.type l.toArray)) M k pan
   | .builtin b => evLK fr c.args.toList fun l => biK P b c.argTypes.toList l M k (match bS b c.argTypes o.type l.toArray with
     | some s => md.runs (VS s) M k pan
     | none => gen md fr o M k pan)
   | .invoke _ _ => gen md fr o M k pan
 | .build t parts =>
   match P.info? t, P.underlying t with
   | some i, some (.struct fields) => (match i.zero with
     | some z => (match allInfo P fields.toList with
       | true => cellsK z fun cs => Bld fr (placeS P fields) parts.toList cs fun cs' => k (.agg cs'.toArray) M
       | false => gen md fr o M k pan)
     | none => gen md fr o M k pan)
   | some i, some (.array _ e) => (match i.zero, P.info? e with
     | some z, some ie => cellsK z fun cs => Bld fr (fun j => some (j * ie.size, ie.size)) parts.toList cs fun cs' => k (.agg cs'.toArray) M
     | _, _ => gen md fr o M k pan)
   | _, _ => gen md fr o M k pan
 | .buildSlice t len parts =>
   match P.underlying t with
   | some (.slice e) => (match P.info? e with
     | some ie => (match ie.zero with
       | some z => (match Nat.ble (len * ie.size) (2 ^ 24), Nat.beq (len * ie.size) 0, Nat.beq z.cells.size ie.size with
         | true, false, true => cellsK z fun zs => repK zs len [] fun cs => Bld fr (fun j => some (j * ie.size, ie.size)) parts.toList cs fun cs' => md.nw cs' e M fun n M' => k (.slice (some ⟨n, 0, none⟩) len len) M'
         | _, _, _ => gen md fr o M k pan)
       | none => gen md fr o M k pan)
     | none => gen md fr o M k pan)
   | _ => gen md fr o M k pan
 | .makeSlice t l c => evK fr l fun lv => evK fr c fun cv => md.runs (VS (Instr.makeSlice t lv cv)) M k pan
 | .lookup t x i ok => evK fr x fun v => evK fr i fun iv => md.runs (VS (Instr.lookup t v iv ok)) M k pan
 | .mapUpdate t m i x => evK fr m fun mv => evK fr i fun iv => evK fr x fun xv => md.runs (US (Instr.mapUpdate t mv iv xv)) M k pan
 | .insert t m i x => evK fr m fun mv => evK fr i fun iv => evK fr x fun xv => md.runs (US (Instr.mapUpdate t mv iv xv)) M k pan
 | .makeMap t none => md.runs (VS (Instr.makeMap t none)) M k pan
 | .range t x => evK fr x fun v => md.runs (VS (Instr.range t v)) M k pan
 | .next x s => evK fr x fun v => md.runs (VS (Instr.next v s o.type)) M k pan
 | .entry x => evK fr x fun v => md.runs (VS (Instr.entry v)) M k pan
 | .makeInterface t x => evK fr x fun v =>
   match P.underlying t with
   | some (.interface _) => gen md fr o M k pan
   | some _ => k (.iface t v) M
   | none => gen md fr o M k pan
 | .typeAssert x t a ok => evK fr x fun v => md.runs (VS (Instr.typeAssert v t a ok)) M k pan
 | _ => gen md fr o M k pan
theorem run_sizeOf_eq {P : Program} {t : TypeId} {i : TypeInfo} (h : P.info? t = some i) (w : World) : (sizeOf t).run P w = .ok i.size w := by
 simp [sizeOf, typeInfo, h]
def aggB (d : TypeDesc) : Bool := match d with | .struct _ => true | .array _ _ => true | _ => false
theorem run_isAgg_eq {P : Program} {t : TypeId} {d : TypeDesc} (h : P.underlying t = some d) (w : World) :
 (isAgg t).run P w = .ok (aggB d) w := by
 simp only [isAgg, Sem.run_bind, run_underlying h, Result.andThen_ok]
 cases d <;> rfl
theorem add_none (b off n : Nat) : (⟨b, off, none⟩ : Addr).add n = ⟨b, off + n, none⟩ := by unfold Addr.add; split <;> simp_all
section
variable {P : Program} {M : List Blk} {k : Kv} {pan : Kp}
theorem run_partK {t : TypeId} {cs : List Value} {off : Nat} {kv : Value → Prop} {other : Prop} (h : partK P t cs off kv other) :
 other ∨ ∃ v, kv v ∧ ∀ w, (part t cs.toArray off).run P w = .ok v w := by
 unfold partK at h
 split at h
 · rename_i i _ hi hu
   have h1 := dropK_out h
   have h2 := takeK_out h1.1
   refine .inr ⟨_, h2.1, fun w => ?_⟩
   simp only [part, Sem.run_bind, run_isAgg_eq hu, aggB, Result.andThen_ok, run_sizeOf_eq hi, Sem.run_pure, if_true]
   simp [List.extract_eq_take_drop]
 · rename_i i _ _ hi hu
   have h1 := dropK_out h
   have h2 := takeK_out h1.1
   refine .inr ⟨_, h2.1, fun w => ?_⟩
   simp only [part, Sem.run_bind, run_isAgg_eq hu, aggB, Result.andThen_ok, run_sizeOf_eq hi, Sem.run_pure, if_true]
   simp [List.extract_eq_take_drop]
 · rename_i i d n1 n2 hi hu
   obtain ⟨v, h1, h2⟩ := getOK_out h
   refine .inr ⟨v, h2, fun w => ?_⟩
   have e : aggB d = false := by
    cases d <;> first | rfl | exact (n1 _ rfl).elim | exact (n2 _ _ rfl).elim
   simp only [part, Sem.run_bind, run_isAgg_eq hu, Result.andThen_ok, e]
   simp [h1]
 · exact .inl h
theorem eval_nil (fr : List Value) (ds : List Deferred) (x : Operand) : Act.eval ⟨fr.toArray, ds⟩ x = Act.eval ⟨fr.toArray, []⟩ x := by cases x <;> rfl
theorem eval_nil' (fr : List Value) (ds : List Deferred) : Act.eval ⟨fr.toArray, ds⟩ = Act.eval ⟨fr.toArray, []⟩ := funext (eval_nil fr ds)
theorem loadVar_one {t : TypeId} {d : TypeDesc} (hu : P.underlying t = some d) (ha : aggB d = false) {a : Addr} {v : Value} {w : World} (hc : w.cell? a = some v) : (loadVar t a).run P w = .ok v w := by
 simp only [loadVar, Sem.run_bind, run_isAgg_eq hu, ha, Result.andThen_ok]
 simp [hc]
theorem loadVar_many {t : TypeId} {d : TypeDesc} {i : TypeInfo} (hu : P.underlying t = some d) (hi : P.info? t = some i) (ha : aggB d = true) {b off : Nat} {vs : List Value} {w : World} (hl : vs.length = i.size)
 (hc : ∀ j v, vs[j]? = some v → w.cell? ⟨b, off + j, none⟩ = some v) : (loadVar t ⟨b, off, none⟩).run P w = .ok (.agg vs.toArray) w := by
 have h := run_loadCells_list (P := P) w ⟨b, off, none⟩ vs (fun j v hj => by rw [add_none]; exact hc j v hj)
 simp only [loadVar, Sem.run_bind, run_isAgg_eq hu, ha, Result.andThen_ok, if_true, run_sizeOf_eq hi, ← hl, h, Sem.run_pure]
theorem newVar_run (t : TypeId) (v : Value) (w : World) : (newVar t v).run P w = .ok ⟨w.heap.size, 0, none⟩ { w with heap := w.heap.push (.cells v.cells t) } := by
 simp only [newVar, newRow, Sem.run_bind, run_newObj, Result.andThen_ok, Sem.run_pure]
theorem equal_bool {t : TypeId} (hu : P.underlying t = some .bool) (a b : Bool) (w : World) : (Op.equal t (.bool a) (.bool b)).run P w = .ok (a == b) w := by
 have h : ∀ d, (Op.equalIn (d + 1) t (.bool a) (.bool b)).run P w = .ok (a == b) w := fun d => by
  simp only [Op.equalIn, Sem.run_bind, run_underlying hu, Result.andThen_ok, Sem.run_pure]
 exact h 9999
def ptrEq : Option Addr → Option Addr → Bool
 | none, none => true
 | _, _ => false
theorem equal_ptr {t e : TypeId} (hu : P.underlying t = some (.pointer e)) {a b : Option Addr} (h : a = none ∨ b = none) (w : World) : (Op.equal t (.pointer a) (.pointer b)).run P w = .ok (ptrEq a b) w := by
 have h : ∀ d, (Op.equalIn (d + 1) t (.pointer a) (.pointer b)).run P w = .ok (ptrEq a b) w := fun d => by
  rcases h with rfl | rfl
  · cases b <;> (simp only [Op.equalIn, Sem.run_bind, run_underlying hu, Result.andThen_ok, Sem.run_pure]; rfl)
  · cases a <;> (simp only [Op.equalIn, Sem.run_bind, run_underlying hu, Result.andThen_ok, Sem.run_pure]; rfl)
 exact h 9999
theorem callFunc_run {g : FuncId} {args : Array Value} (h : enters P g = true) (w : World) : (callFunc g args).run P w = .ok (.enter g args) w := by
 unfold enters at h
 unfold callFunc
 simp only [Sem.run_bind, run_program, Result.andThen_ok]
 split at h
 · rename_i fn hf
   simp only [Bool.and_eq_true, bne_iff_ne, ne_eq] at h
   obtain ⟨h1, h2⟩ := h
   have h3 : (fn.name == "runtime.NumGoroutine") = false := by simpa using h1
   have h4 : fn.body.isNone = false := by cases hb : fn.body <;> simp [hb] at h2 ⊢
   simp [hf, h3, h4]
 · cases h
theorem optK_out {fr : List Value} {x : Option Operand} {d : Int} {K : Int → Prop} {other : Prop} (h : optK fr x d K other) :
 other ∨ ∃ z, K z ∧ ((x = none ∧ z = d) ∨ ∃ q kd, x = some q ∧ Act.eval ⟨fr.toArray, []⟩ q = .int kd z) := by
 unfold optK at h
 split at h
 · exact .inr ⟨d, h, .inl ⟨rfl, rfl⟩⟩
 · rename_i q
   rw [evK_eq fr []] at h
   split at h
   · rename_i kd z hv; exact .inr ⟨z, h, .inr ⟨q, kd, rfl, hv⟩⟩
   · exact .inl h
theorem slice_bounds {fr : List Value} {isSlice : Bool} {len cap : Nat} {lo hi : Option Operand} {l q : Int}
 (hl : (lo = none ∧ l = 0) ∨ ∃ o kd, lo = some o ∧ Act.eval ⟨fr.toArray, []⟩ o = .int kd l) (hq : (hi = none ∧ q = len) ∨ ∃ o kd, hi = some o ∧ Act.eval ⟨fr.toArray, []⟩ o = .int kd q)
 (hb : 0 ≤ l ∧ l ≤ q ∧ q ≤ cap) (w : World) :
 (Instr.sliceBounds isSlice len cap (lo.map (Act.eval ⟨fr.toArray, []⟩)) (hi.map (Act.eval ⟨fr.toArray, []⟩)) none).run P w = .ok (l.toNat, q.toNat, cap) w := by
 have b1 : ∀ kd (z : Int) (y : Nat) c, 0 ≤ z ∧ z ≤ y → (Instr.sliceBound (.int kd z) y c).run P w = .ok z.toNat w := fun kd z y c hz => by
  simp [Instr.sliceBound, asIntOf, hz]
 have hle : l ≤ (q.toNat : Int) := by omega
 rcases hl with ⟨rfl, rfl⟩ | ⟨o1, k1, rfl, e1⟩ <;> rcases hq with ⟨rfl, rfl⟩ | ⟨o2, k2, rfl, e2⟩
 · simp [Instr.sliceBounds]
 · simp [Instr.sliceBounds, e2, b1 k2 q cap _ ⟨by omega, hb.2.2⟩]
 · simp [Instr.sliceBounds, e1, b1 k1 l len _ ⟨hb.1, hb.2.1⟩]
 · simp [Instr.sliceBounds, e1, e2, b1 k2 q cap _ ⟨by omega, hb.2.2⟩, b1 k1 l q.toNat _ ⟨hb.1, hle⟩]
theorem fold_set (off : Nat) : ∀ (vs : List Value) (j : Nat) (cells : Array Value), off + j + vs.length ≤ cells.size →
 ((vs.zipIdx j).foldl (fun cs (x : Value × Nat) => cs.setIfInBounds (off + x.2) x.1) cells).toList = cells.toList.take (off + j) ++ vs ++ cells.toList.drop (off + j + vs.length)
 | [], j, cells, h => by simp
 | v :: vs, j, cells, h => by
   have h' : off + (j + 1) + vs.length ≤ (cells.setIfInBounds (off + j) v).size := by simp at h ⊢; omega
   have ih := fold_set off vs (j + 1) (cells.setIfInBounds (off + j) v) h'
   simp only [List.zipIdx_cons, List.foldl_cons]
   rw [ih]
   have e := list_seg_step cells.toList (off + j) v vs (by simp at h ⊢; omega)
   simpa [Array.toList_setIfInBounds, Nat.add_assoc] using e
theorem fill_cons {place : Nat → Option (Nat × Nat)} {cells : Array Value} {i off : Nat} {v : Value} {rest : List (Nat × Value)} (hp : place i = some (off, v.cells.size)) (h : off + v.cells.size ≤ cells.size) :
 Instr.fill place cells ((i, v) :: rest) = Instr.fill place (cells.toList.take off ++ v.cells.toList ++ cells.toList.drop (off + v.cells.toList.length)).toArray rest := by
 have e : v.cells.zipIdx.foldl (fun cs (x : Value × Nat) => cs.setIfInBounds (off + x.2) x.1) cells = (cells.toList.take off ++ v.cells.toList ++ cells.toList.drop (off + v.cells.toList.length)).toArray := by
  apply Array.ext'
  rw [← Array.foldl_toList, Array.toList_zipIdx, fold_set off v.cells.toList 0 cells (by simpa using h)]
  simp
 simp only [Instr.fill, hp]
 rw [if_neg (by simp; omega)]
 exact congrArg (fun c => Instr.fill place c rest) e
theorem bldK_out {fr : List Value} {place : Nat → Option (Nat × Nat)} {k : List Value → Prop} : ∀ (parts : List (Nat × Operand)) (cs : List Value), bldK fr place parts cs k →
 ∃ cs', Instr.fill place cs.toArray (parts.map fun x => (x.1, Act.eval ⟨fr.toArray, []⟩ x.2)) = some cs'.toArray ∧ k cs'
 | [], cs, h => ⟨cs, rfl, h⟩
 | (i, x) :: parts, cs, h => by
   have h : evK fr x (fun v => cellsK v fun vs => match place i with
    | some (off, size) => (match Nat.beq vs.length size with | true => spliceK cs off vs fun cs' => bldK fr place parts cs' k | false => False)
    | none => False) := h
   rw [evK_eq fr [], cellsK_eq] at h
   split at h
   · rename_i off size hp
     split at h
     · rename_i hb
       have hs := Nat.eq_of_beq_eq_true hb
       have h1 := spliceK_out h
       obtain ⟨cs', h2, h3⟩ := bldK_out parts _ h1.1
       refine ⟨cs', ?_, h3⟩
       rw [List.map_cons, fill_cons (off := off) (by rw [hp, ← hs, Array.length_toList]) (by have := h1.2; simp at this ⊢; omega)]
       simpa using h2
     · exact h.elim
   · exact h.elim
theorem bld {fr : List Value} {place : Nat → Option (Nat × Nat)} {k : List Value → Prop} {parts : List (Nat × Operand)} {cs : List Value} (h : bldK fr place parts cs k) : Bld fr place parts cs k := ⟨bldK_out _ _ h⟩
theorem bld_nil {fr : List Value} {place : Nat → Option (Nat × Nat)} {k : List Value → Prop} {cs : List Value} (h : k cs) : Bld fr place [] cs k := ⟨⟨cs, rfl, h⟩⟩
theorem bld_cons {fr : List Value} {place : Nat → Option (Nat × Nat)} {k : List Value → Prop} {parts : List (Nat × Operand)} {cs cs1 vs : List Value} {i off size : Nat} {x : Operand} (hv : (Act.eval ⟨fr.toArray, []⟩ x).cells.toList = vs) (hp : place i = some (off, size))
 (hs : vs.length = size) (hl : off + size ≤ cs.length) (he : cs.take off ++ vs ++ cs.drop (off + size) = cs1) (h : Bld fr place parts cs1 k) : Bld fr place ((i, x) :: parts) cs k := by
 obtain ⟨cs', h2, h3⟩ := h.out
 refine ⟨⟨cs', ?_, h3⟩⟩
 rw [List.map_cons, fill_cons (off := off) (by rw [hp, ← hs, ← hv, Array.length_toList]) (by rw [← hv, Array.length_toList] at hs; rw [hs]; simpa using hl), hv, hs]
 simpa [he] using h2
theorem allInfo_out {l : List Field} (h : allInfo P l = true) : ∀ f ∈ l, ∃ i, P.info? f.type = some i := by
 induction l with
 | nil => intro f hf; cases hf
 | cons a t ih =>
   have h' : (match P.info? a.type with | some _ => allInfo P t | none => false) = true := h
   split at h'
   · rename_i i hi
     intro f hf
     rcases List.mem_cons.1 hf with rfl | hf
     · exact ⟨i, hi⟩
     · exact ih h' f hf
   · cases h'
theorem places_run {fields : Array Field} (h : allInfo P fields.toList = true) (w : World) :
 (fields.mapM fun (f : Field) => (do pure (f.offset, ← sizeOf f.type) : Sem (Nat × Nat))).run P w = .ok (fields.map fun f => (f.offset, P.cellsOf f.type)) w := by
 have hl : ∀ (l : List Field), (∀ f ∈ l, ∃ i, P.info? f.type = some i) → (l.mapM fun (f : Field) => (do pure (f.offset, ← sizeOf f.type) : Sem (Nat × Nat))).run P w = .ok (l.map fun f => (f.offset, P.cellsOf f.type)) w := by
  intro l
  induction l with
  | nil => intro _; rfl
  | cons a t ih =>
    intro hf
    obtain ⟨i, hi⟩ := hf a (by simp)
    have e : P.cellsOf a.type = i.size := by simp [Program.cellsOf, hi]
    simp only [List.mapM_cons, Sem.run_bind, run_sizeOf_eq hi, Result.andThen_ok, Sem.run_pure, ih (fun f h => hf f (by simp [h])), List.map_cons, e]
 rw [Array.mapM_eq_mapM_toList, Sem.run_map, hl _ (allInfo_out h)]
 simp only [Result.andThen_ok]
 congr 1
 apply Array.ext'
 simp
theorem placeS_eq {fields : Array Field} (h : allInfo P fields.toList = true) : (fun i => (fields.map fun f => (f.offset, P.cellsOf f.type))[i]?) = placeS P fields := by
 funext i
 unfold placeS
 rw [Array.getElem?_map]
 cases hf : fields[i]? with
 | none => rfl
 | some f =>
   obtain ⟨inf, hi⟩ := allInfo_out h f (by
    have := Array.mem_of_getElem? hf
    simpa using this)
   obtain ⟨q1, ty, fo, q2, q3, q4, q5⟩ := f
   simp only [Option.map_some, Program.cellsOf] at hi ⊢
   simp [hi]
theorem repK_out {zs : List Value} {k : List Value → Prop} : ∀ (len : Nat) (acc : List Value), repK zs len acc k → k ((List.replicate len zs).flatten ++ acc)
 | 0, acc, h => by have h : k acc := h; simpa using h
 | len + 1, acc, h => by
   have h : appK zs acc (fun acc' => repK zs len acc' k) := h
   rw [appK_eq] at h
   have := repK_out len _ h
   rw [List.replicate_succ']
   simpa using this
theorem zeros_eq (zs : List Value) (hz : 0 < zs.length) : ∀ (len : Nat), (List.range (len * zs.length)).map (fun i => zs.toArray[i % zs.toArray.size]!) = (List.replicate len zs).flatten
 | 0 => by simp
 | len + 1 => by
   rw [Nat.succ_mul, List.range_add, List.map_append, zeros_eq zs hz len, List.replicate_succ', List.flatten_append]
   congr 1
   simp only [List.flatten_cons, List.flatten_nil, List.append_nil, List.map_map]
   apply List.ext_getElem
   · simp
   · intro i h1 h2
     simp only [List.getElem_map, List.getElem_range, Function.comp, List.size_toArray]
     have e : (len * zs.length + i) % zs.length = i := by rw [Nat.mul_comm, Nat.mul_add_mod]; exact Nat.mod_eq_of_lt h2
     rw [e]
     simp [h2]
theorem opK_sound {md : Md} (sd : md.Sound P) {fr : List Value} {o : Oper} (h : opK md P fr M o k pan) : md.runs (execOp (Act.eval ⟨fr.toArray, []⟩) o) M k pan := by
 cases o with
 | mk dst op type pos after guard =>
 unfold opK at h
 cases op
 case move x => simp only [evK_eq fr []] at h; exact sd.val _ (fun w => by simp [execOp]) h
 case assign x => simp only [evK_eq fr []] at h; exact sd.val _ (fun w => by simp [execOp]) h
 case pick c a b =>
  simp only [evK_eq fr []] at h
  split at h
  · rename_i hc; exact sd.val _ (fun w => by simp [execOp, hc, asBool]) h
  · rename_i hc; exact sd.val _ (fun w => by simp [execOp, hc, asBool]) h
  · exact h
 case alloc e =>
  simp only at h
  split at h
  · rename_i i hi
    split at h
    · rename_i z hz
      rw [cellsK_eq] at h
      refine sd.nw (fun n => .pointer (some ⟨n, 0, none⟩)) h (fun w => ?_)
      simp [execOp, Instr.alloc, zeroValue, typeInfo, hi, hz, newVar_run]
    · exact h
  · exact h
 case box e x =>
  simp only [evK_eq fr []] at h
  rw [cellsK_eq] at h
  refine sd.nw (fun n => .pointer (some ⟨n, 0, none⟩)) h (fun w => ?_)
  simp [execOp, Instr.box, newVar_run]
 case load t a =>
  simp only [evK_eq fr []] at h
  split at h
  · rename_i b off hv
    have hone : ∀ d, P.underlying t = some d → aggB d = false → md.ld1 M b off (fun v => k v M) → md.runs (execOp (Act.eval ⟨fr.toArray, []⟩) ⟨dst, .load t a, type, pos, after, guard⟩) M k pan := by
     intro d hu ha hl
     exact sd.ld1 hl fun v w hc => by simp [execOp, hv, Instr.loadAt, Instr.sureAddr, loadVar_one hu ha hc]
    have hmany : ∀ d i, P.underlying t = some d → P.info? t = some i → aggB d = true → md.ldN M b off i.size (fun vs => k (.agg vs.toArray) M) → md.runs (execOp (Act.eval ⟨fr.toArray, []⟩) ⟨dst, .load t a, type, pos, after, guard⟩) M k pan := by
     intro d i hu hi ha hl
     exact sd.ldN hl fun vs w hlen hc => by simp [execOp, hv, Instr.loadAt, Instr.sureAddr, loadVar_many hu hi ha hlen hc]
    split at h
    · rename_i i _ hi hu; exact hmany _ i hu hi rfl h
    · rename_i i _ _ hi hu; exact hmany _ i hu hi rfl h
    · rename_i i d n1 n2 hi hu
      exact hone d hu (by cases d <;> first | rfl | exact (n1 _ rfl).elim | exact (n2 _ _ rfl).elim) h
    · exact h
  · exact h
 case store t a x =>
  simp only [evK_eq fr []] at h
  split at h
  · rename_i b off hv
    split at h
    · rename_i i hi
      rw [cellsK_eq] at h
      obtain ⟨hl, hs⟩ := need_out h
      refine sd.stN hs fun w w' hr => ?_
      simp only [Array.length_toList] at hl
      simp [execOp, hv, Instr.storeAt, Instr.sureAddr, storeVar, run_sizeOf_eq hi, hl, hr]
    · exact h
  · exact h
 case nilCheck x =>
  simp only [evK_eq fr []] at h
  split at h
  · rename_i hv; exact sd.val _ (fun w => by simp [execOp, hv]) h
  · rename_i hv; exact sd.val _ (fun w => by simp [execOp, hv]) h
  · exact h
 case binOp op t x y t' =>
  simp only [evK_eq fr []] at h
  generalize hx : Act.eval ⟨fr.toArray, []⟩ x = xv at h
  generalize hy : Act.eval ⟨fr.toArray, []⟩ y = yv at h
  have hrun : ∀ (v : Value), (∀ w, (eqGuard op t x y xv yv).run P w = .ok () w) → (∀ w, (Go.binOp op t xv yv).run P w = .ok v w) → ∀ w, (execOp (Act.eval ⟨fr.toArray, []⟩) ⟨dst, .binOp op t x y t', type, pos, after, guard⟩).run P w = .ok (.value v) w := by
   intro v h1 h2 w
   simp [execOp, hx, hy, h1, h2]
  cases xv <;> cases yv <;> first | exact h | skip
  · -- bool
    rename_i a b
    dsimp only [binK] at h
    split at h
    · rename_i hu
      have hb : ∀ (c : Bool), (∀ w, (Go.binOp op t (.bool a) (.bool b)).run P w = .ok (.bool c) w) → k (.bool c) M → md.runs (execOp (Act.eval ⟨fr.toArray, []⟩) ⟨dst, .binOp op t x y t', type, pos, after, guard⟩) M k pan :=
       fun c hc hk => sd.val _ (hrun _ (guard_bool op t x y a b) hc) hk
      cases op <;> first | exact h | skip
      all_goals
       cases a <;> cases b <;> exact hb _ (fun w => by simp only [Go.binOp, Sem.run_bind, equal_bool hu, Result.andThen_ok, Sem.run_pure]; rfl) h
    · exact h
  · -- int
    exact bin_int (s := execOp (Act.eval ⟨fr.toArray, []⟩) ⟨dst, .binOp op t x y t', type, pos, after, guard⟩) sd id h (fun v hv => hrun v (guard_int op t x y _ _ _ _) hv)
  · -- string
    rename_i a b
    dsimp only [binK] at h
    have hs : ∀ (v : Value), (∀ w, (Go.binOp op t (.string a) (.string b)).run P w = .ok v w) → k v M → md.runs (execOp (Act.eval ⟨fr.toArray, []⟩) ⟨dst, .binOp op t x y t', type, pos, after, guard⟩) M k pan :=
     fun c hc hk => sd.val _ (hrun _ (guard_string op t x y a b) hc) hk
    cases op <;> first | exact h | skip
    case add =>
     obtain ⟨h1, h2⟩ := need_out h
     exact hs _ (fun w => by
      have : ¬ (((a.size + b.size : Nat) : Int) > IntKind.i64.max) := by omega
      simp only [Go.binOp, Op.stringOp, if_neg this, Sem.run_pure]) (sv_out h2)
    case eql => exact hs _ (fun w => by simp only [Go.binOp, Op.stringOp, Sem.run_pure, toList_beq]) (if_t (K := fun b => k (.bool b) M) h)
    case neq => exact hs _ (fun w => by simp only [Go.binOp, Op.stringOp, Sem.run_pure, toList_beq]) (if_f (K := fun b => k (.bool b) M) h)
    case lss => exact hs _ (fun w => by simp only [Go.binOp, Op.stringOp, Sem.run_pure, Bool.decide_eq_true]) (if_t (K := fun b => k (.bool b) M) h)
    case leq => exact hs _ (fun w => by simp only [Go.binOp, Op.stringOp, Sem.run_pure, Bool.decide_eq_true]) (if_t (K := fun b => k (.bool b) M) h)
    case gtr => exact hs _ (fun w => by simp only [Go.binOp, Op.stringOp, Sem.run_pure, Bool.decide_eq_true]) (if_f (K := fun b => k (.bool b) M) h)
    case geq => exact hs _ (fun w => by simp only [Go.binOp, Op.stringOp, Sem.run_pure, Bool.decide_eq_true]) (if_f (K := fun b => k (.bool b) M) h)
  · -- pointers
    rename_i a b
    dsimp only [binK] at h
    split at h
    · rename_i e hu
      have hb : ∀ (c : Bool), (∀ w, (Go.binOp op t (.pointer a) (.pointer b)).run P w = .ok (.bool c) w) → k (.bool c) M → md.runs (execOp (Act.eval ⟨fr.toArray, []⟩) ⟨dst, .binOp op t x y t', type, pos, after, guard⟩) M k pan :=
       fun c hc hk => sd.val _ (hrun _ (guard_ptr op t x y a b) hc) hk
      cases op <;> first | exact h | skip
      all_goals
       cases a <;> cases b <;> first | exact h | exact hb _ (fun w => by simp only [Go.binOp, Sem.run_bind, equal_ptr hu (.inl rfl), Result.andThen_ok, Sem.run_pure]; rfl) h | exact hb _ (fun w => by simp only [Go.binOp, Sem.run_bind, equal_ptr hu (.inr rfl), Result.andThen_ok, Sem.run_pure]; rfl) h
    · exact h
 case unOp op t x =>
  simp only [evK_eq fr []] at h
  split at h
  · rename_i hv; exact sd.val _ (fun w => by simp [execOp, hv, Op.unary]; try rfl) h
  · rename_i hv; exact sd.val _ (fun w => by simp [execOp, hv, Op.unary]; try rfl) h
  · rename_i hv; exact sd.val _ (fun w => by simp [execOp, hv, Op.unary, Op.intArith]) (wr_out h)
  · rename_i hv; exact sd.val _ (fun w => by simp [execOp, hv, Op.unary, Op.intBits]) (wr_out h)
  · exact h
 case convert sT dT x =>
  simp only [evK_eq fr []] at h
  generalize hx : Act.eval ⟨fr.toArray, []⟩ x = xv at h
  split at h
  · rename_i hs hd
    exact sd.val _ (fun w => by simp [execOp, hx, convert, run_underlying hs, run_underlying hd, Conv.intToInt]) (wr_out h)
  · rename_i hs hd
    exact sd.val _ (fun w => by simp [execOp, hx, convert, run_underlying hs, run_underlying hd]) h
  · exact sd.congr (fun w => by simp only [execOp, hx, VS]) h
 case makeFunc fn f c =>
  simp only [evLK_eq fr []] at h
  exact sd.val _ (fun w => by simp [execOp, Instr.makeFunc, ← List.map_toArray]) h
 case fieldAddr sT x f =>
  simp only [evK_eq fr []] at h
  generalize hx : Act.eval ⟨fr.toArray, []⟩ x = xv at h
  split at h
  · rename_i fields b off hu
    split at h
    · rename_i q1 ty fo q2 q3 q4 q5 hf
      split at h
      · rename_i i hi
        split at h
        · exact h
        · rename_i n hn
          exact sd.val _ (fun w => by simp [execOp, hx, Instr.fieldAt, run_underlying hu, hf, Instr.sureAddr, fieldPlace, run_sizeOf_eq hi, hn, add_none]) h
      · exact h
    · exact h
  · exact h
 case field t x f =>
  simp only [evK_eq fr []] at h
  generalize hx : Act.eval ⟨fr.toArray, []⟩ x = xv at h
  split at h
  · rename_i fields cs hu
    split at h
    · rename_i q1 ty fo q2 q3 q4 q5 hf
      rcases run_partK h with h | ⟨v, hk, hr⟩
      · exact h
      · exact sd.val _ (fun w => by simp only [Array.toArray_toList] at hr; simp [execOp, hx, Instr.field, run_underlying hu, hf, asAgg, hr]) hk
    · exact h
  · exact h
 case indexAddr t x i =>
  simp only [evK_eq fr []] at h
  generalize hx : Act.eval ⟨fr.toArray, []⟩ x = xv at h
  generalize hi : Act.eval ⟨fr.toArray, []⟩ i = iv at h
  split at h
  · rename_i kd z len e b off hu
    split at h
    · rename_i q1 q2 sz q3 q4 q5 q6 q7 q8 q9 hinf
      obtain ⟨hb, h2⟩ := need_out h
      exact sd.val _ (fun w => by simp [execOp, hx, hi, Instr.indexAt, asIntOf, run_underlying hu, Instr.sureAddr, hb, run_sizeOf_eq hinf, add_none]) (nv_out h2)
    · exact h
  · rename_i kd z e b off len cap hu
    split at h
    · rename_i q1 q2 sz q3 q4 q5 q6 q7 q8 q9 hinf
      obtain ⟨hb, h2⟩ := need_out h
      exact sd.val _ (fun w => by simp [execOp, hx, hi, Instr.indexAt, asIntOf, run_underlying hu, hb, run_sizeOf_eq hinf, add_none]) (nv_out h2)
    · exact h
  · exact h
 case index t x i =>
  simp only [evK_eq fr []] at h
  generalize hx : Act.eval ⟨fr.toArray, []⟩ x = xv at h
  generalize hi : Act.eval ⟨fr.toArray, []⟩ i = iv at h
  split at h
  · rename_i kd z str hu
    obtain ⟨hb, h2⟩ := need_out h
    have hz : z.toNat < str.size := by omega
    exact sd.val _ (fun w => by simp [execOp, hx, hi, Instr.index, asIntOf, run_underlying hu, hb.1, hz, byteAt]; rfl) (zv_out h2)
  · rename_i kd z len e cs hu
    split at h
    · rename_i q1 q2 sz q3 q4 q5 q6 q7 q8 q9 hinf
      obtain ⟨hb, h2⟩ := need_out h
      rcases run_partK (nv_out h2) with h | ⟨v, hk, hr⟩
      · exact h
      · exact sd.val _ (fun w => by simp only [Array.toArray_toList] at hr; simp [execOp, hx, hi, Instr.index, asIntOf, run_underlying hu, hb, run_sizeOf_eq hinf, hr]) hk
    · exact h
  · exact h
 case extract t ix =>
  simp only [evK_eq fr []] at h
  split at h
  · rename_i vs hv
    obtain ⟨v, h1, h2⟩ := getOK_out h
    exact sd.val _ (fun w => by
     rw [Array.getElem?_toList] at h1
     simp [execOp, hv, Instr.extract, h1]) h2
  · exact h
 case panic x =>
  simp only [evK_eq fr []] at h
  split at h
  · rename_i t u hv
    exact sd.pan h fun w => by simp [execOp, hv, Instr.panic]
  · exact h
 case build t parts =>
  have hmap : (parts.map fun x => (x.1, Act.eval ⟨fr.toArray, []⟩ x.2)).toList = parts.toList.map fun x => (x.1, Act.eval ⟨fr.toArray, []⟩ x.2) := by simp
  simp only at h
  split at h
  · rename_i i fields hi hu
    split at h
    · rename_i z hz
      split at h
      · rename_i ha
        rw [cellsK_eq] at h
        obtain ⟨cs', h1, h2⟩ := h.out
        refine sd.val _ (fun w => ?_) h2
        have hp := places_run ha w
        have he := placeS_eq ha
        simp only [Array.toArray_toList] at h1
        simp only [execOp, Instr.build, Sem.run_bind, zeroValue, typeInfo, run_program, Result.andThen_ok, hi, hz, Sem.run_pure, run_underlying hu, hp, he]
        simp only [hmap, h1, Sem.run_pure, Result.andThen_ok]
      · exact h
    · exact h
  · rename_i i n e hi hu
    split at h
    · rename_i z ie hz he
      rw [cellsK_eq] at h
      obtain ⟨cs', h1, h2⟩ := h.out
      refine sd.val _ (fun w => ?_) h2
      simp only [Array.toArray_toList] at h1
      simp only [execOp, Instr.build, Sem.run_bind, zeroValue, typeInfo, run_program, Result.andThen_ok, hi, hz, Sem.run_pure, run_underlying hu, run_sizeOf_eq he]
      simp only [hmap, h1, Sem.run_pure, Result.andThen_ok]
    · exact h
  · exact h
 case buildSlice t len parts =>
  have hmap : (parts.map fun x => (x.1, Act.eval ⟨fr.toArray, []⟩ x.2)).toList = parts.toList.map fun x => (x.1, Act.eval ⟨fr.toArray, []⟩ x.2) := by simp
  simp only at h
  split at h
  · rename_i e hu
    split at h
    · rename_i ie he
      split at h
      · rename_i z hz
        split at h
        · rename_i h1 h2 h3
          have g1 : ¬ len * ie.size > 2 ^ 24 := by have := Nat.le_of_ble_eq_true h1; omega
          have g2 : ¬ len * ie.size = 0 := fun hc => by rw [hc] at h2; cases h2
          have g3 := Nat.eq_of_beq_eq_true h3
          have g4 : 0 < z.cells.toList.length := by
           rw [Array.length_toList, g3]
           exact Nat.pos_of_ne_zero fun hc => g2 (by rw [hc]; rfl)
          rw [cellsK_eq] at h
          have h4 := repK_out _ _ h
          obtain ⟨cs', h5, h6⟩ := h4.out
          refine sd.nw (fun n => .slice (some ⟨n, 0, none⟩) len len) h6 (fun w => ?_)
          have hz0 : ((Array.range (len * ie.size)).map fun i => z.cells[i % z.cells.size]!) = ((List.replicate len z.cells.toList).flatten ++ []).toArray := by
           apply Array.ext'
           have := zeros_eq z.cells.toList g4 len
           simp only [Array.toArray_toList, Array.length_toList] at this
           rw [← g3]
           simp only [Array.toList_map, Array.toList_range, List.append_nil]
           exact this
          simp only [execOp, Instr.buildSlice, Sem.run_bind, run_underlying hu, Result.andThen_ok, run_sizeOf_eq he, if_neg g1, if_neg g2, zeroValue, typeInfo, run_program, he, hz, Sem.run_pure, Sem.run_ite]
          rw [hz0]
          simp only [hmap, h5, newRow, Sem.run_bind, run_newObj, Result.andThen_ok, Sem.run_pure]
        · exact h
      · exact h
    · exact h
  · exact h
 case makeSlice t l c =>
  simp only [evK_eq fr []] at h
  exact sd.congr (fun w => by simp only [execOp, VS]) h
 case lookup t x i ok => simp only [evK_eq fr []] at h; exact sd.congr (fun w => by simp only [execOp, VS]) h
 case mapUpdate t m i x => simp only [evK_eq fr []] at h; exact sd.congr (fun w => by simp only [execOp, US]) h
 case insert t m i x => simp only [evK_eq fr []] at h; exact sd.congr (fun w => by simp only [execOp, US]) h
 case makeMap t r =>
  cases r with
  | none => exact sd.congr (fun w => by simp only [execOp, VS, Option.map_none]) h
  | some r => exact h
 case range t x => simp only [evK_eq fr []] at h; exact sd.congr (fun w => by simp only [execOp, VS]) h
 case next x s => simp only [evK_eq fr []] at h; exact sd.congr (fun w => by simp only [execOp, VS]) h
 case entry x => simp only [evK_eq fr []] at h; exact sd.congr (fun w => by simp only [execOp, VS]) h
 case typeAssert x t a ok => simp only [evK_eq fr []] at h; exact sd.congr (fun w => by simp only [execOp, VS]) h
 case makeInterface t x =>
  simp only [evK_eq fr []] at h
  split at h
  · exact h
  · rename_i d hn hu
    refine sd.val _ (fun w => ?_) h
    simp only [execOp, Instr.makeInterface, Sem.run_bind, run_underlying hu, Result.andThen_ok]
    cases d <;> first | rfl | (simp [Sem.run_pure, Sem.run_bind]; done) | exact (hn _ rfl).elim
  · exact h
 case slice t x lo hi mx =>
  cases mx with
  | some m => exact h
  | none =>
    simp only [evK_eq fr []] at h
    generalize hx : Act.eval ⟨fr.toArray, []⟩ x = xv at h
    split at h
    · rename_i str hu
      rcases optK_out h with h | ⟨l, h, hl⟩
      · exact h
      rcases optK_out h with h | ⟨q, h, hq⟩
      · exact h
      obtain ⟨hb, h2⟩ := need_out h
      refine sd.val _ (fun w => ?_) (sv_out h2)
      have hs := slice_bounds (P := P) (isSlice := false) (len := str.size) (cap := str.size) hl hq (by omega) w
      simp only [execOp, hx, Instr.sliceAt, Sem.run_bind, run_underlying hu, Result.andThen_ok, Instr.slice, Option.map_none, hs, Sem.run_pure]
      simp [run_underlying hu, hs]
    · rename_i e b off len cap hu
      split at h
      · rename_i q1 q2 sz q3 q4 q5 q6 q7 q8 q9 hinf
        rcases optK_out h with h | ⟨l, h, hl⟩
        · exact h
        rcases optK_out h with h | ⟨q, h, hq⟩
        · exact h
        obtain ⟨hb, h2⟩ := need_out h
        refine sd.val _ (fun w => ?_) (nv_out (nv_out (nv_out h2)))
        have hs := slice_bounds (P := P) (isSlice := true) (len := len) (cap := cap) hl hq (by omega) w
        simp only [execOp, hx, Instr.sliceAt, Sem.run_bind, run_underlying hu, Result.andThen_ok, Instr.slice, Option.map_none, hs, Sem.run_pure, run_sizeOf_eq hinf]
        by_cases hc : cap = l.toNat <;> simp [run_underlying hu, hs, run_sizeOf_eq hinf, hc, add_none]
      · exact h
    · rename_i m e b off hu
      split at h
      · rename_i q1 q2 sz q3 q4 q5 q6 q7 q8 q9 hinf
        rcases optK_out h with h | ⟨l, h, hl⟩
        · exact h
        rcases optK_out h with h | ⟨q, h, hq⟩
        · exact h
        obtain ⟨hb, h2⟩ := need_out h
        refine sd.val _ (fun w => ?_) (nv_out (nv_out (nv_out h2)))
        have hs := slice_bounds (P := P) (isSlice := false) (len := m) (cap := m) hl hq (by omega) w
        simp only [execOp, hx, Instr.sliceAt, Sem.run_bind, run_underlying hu, Result.andThen_ok, Instr.sureAddr, Option.map_none, hs, Sem.run_pure, run_sizeOf_eq hinf]
        by_cases hc : m = l.toNat <;> simp [hs, run_sizeOf_eq hinf, hc, add_none]
      · exact h
    · exact h
 case call c =>
  obtain ⟨callee, args, ats⟩ := c
  cases callee with
  | invoke r m => exact h
  | value f =>
    simp only [evK_eq fr [], evLK_eq fr []] at h
    generalize hx : Act.eval ⟨fr.toArray, []⟩ f = fv at h
    split at h
    · rename_i g first cap
      rw [appK_eq, appK_eq] at h
      refine sd.cl h fun he w => ?_
      simp only [execOp, resolve, hx, Deferred.ofValue, Sem.run_bind, Sem.run_pure, Result.andThen_ok, invoke]
      rw [callFunc_run he]
      congr 2
      apply Array.ext'
      simp
    · exact h
  | builtin b =>
    have hres : ∀ (s : Sem Value), (∀ (cs : Array Bool) w, (Go.builtin b ats type cs (args.map (Act.eval ⟨fr.toArray, []⟩))).run P w = (VS s).run P w) → md.runs (VS s) M k pan → md.runs (execOp (Act.eval ⟨fr.toArray, []⟩) ⟨dst, .call ⟨.builtin b, args, ats⟩, type, pos, after, guard⟩) M k pan := by
     intro s hs hr
     exact sd.congr (fun w => by simp only [execOp, resolve, Sem.run_bind, Sem.run_pure, Result.andThen_ok, invoke]; exact hs _ w) hr
    have hm : args.map (Act.eval ⟨fr.toArray, []⟩) = (List.map (Act.eval ⟨fr.toArray, []⟩) args.toList).toArray := by apply Array.ext'; simp
    have hlen : ∀ (v : Value), (∀ w, (Builtin.len_ ats type (args.map (Act.eval ⟨fr.toArray, []⟩))).run P w = .ok v w) → b = .len → k v M → md.runs (execOp (Act.eval ⟨fr.toArray, []⟩) ⟨dst, .call ⟨.builtin b, args, ats⟩, type, pos, after, guard⟩) M k pan := by
     intro v hv hb hk
     subst hb
     exact hres (Builtin.len_ ats type (args.map (Act.eval ⟨fr.toArray, []⟩))) (fun cs w => rfl) (sd.val _ (fun w => by simp [VS, hv]) hk)
    cases b
    case append => simp only [evLK_eq fr []] at h; rw [← hm] at h; exact hres _ (fun cs w => rfl) h
    case copy => simp only [evLK_eq fr []] at h; rw [← hm] at h; exact hres _ (fun cs w => rfl) h
    case len =>
     simp only [evLK_eq fr []] at h
     have hl : md.runs (VS (Builtin.len_ ats type (args.map (Act.eval ⟨fr.toArray, []⟩)))) M k pan → md.runs (execOp (Act.eval ⟨fr.toArray, []⟩) ⟨dst, .call ⟨.builtin .len, args, ats⟩, type, pos, after, guard⟩) M k pan := fun h => hres _ (fun cs w => rfl) h
     rw [hm] at hl
     unfold biK at h
     rw [hm] at hlen
     split at h
     · rename_i t ts x l he1 he2 he3
       have ha : ats[0]? = some t := by rw [← Array.getElem?_toList, he2]; rfl
       split at h
       all_goals first
        | exact hl h
        | (rename_i hu; exact hlen _ (fun w => by simp [Builtin.len_, ha, he3, run_underlying hu, goInt]) rfl h)
     · rename_i q1 q2; cases q1
     · rename_i q1 q2; cases q1
     · exact hl h
    case min =>
     simp only [evLK_eq fr []] at h
     unfold biK at h
     split at h
     · rename_i q _ _; cases q
     · rename_i kd x kd' y q1 q2
       refine hres (Builtin.min_ ats type (args.map (Act.eval ⟨fr.toArray, []⟩))) (fun cs w => rfl) ?_
       rw [hm, q2]
       refine sd.val (.int kd (if y < x then y else x)) (fun w => by simp [VS, Builtin.min_, Builtin.min2]) ?_
       have h := h.out
       by_cases hc : y < x
       · rw [if_pos hc]; exact h.1 hc
       · rw [if_neg hc]; exact h.2 hc
     · rename_i q _; cases q
     · exact h
    case max =>
     simp only [evLK_eq fr []] at h
     unfold biK at h
     split at h
     · rename_i q _ _; cases q
     · rename_i q _; cases q
     · rename_i kd x kd' y q1 q2
       refine hres (Builtin.max_ ats type (args.map (Act.eval ⟨fr.toArray, []⟩))) (fun cs w => rfl) ?_
       rw [hm, q2]
       refine sd.val (.int kd (if x < y then y else x)) (fun w => by simp [VS, Builtin.max_, Builtin.max2]) ?_
       have h := h.out
       by_cases hc : x < y
       · rw [if_pos hc]; exact h.1 hc
       · rw [if_neg hc]; exact h.2 hc
     · exact h
    case delete => simp only [evLK_eq fr [], biK, bS] at h; rw [← hm] at h; exact hres _ (fun cs w => rfl) h
    case clear => simp only [evLK_eq fr [], biK, bS] at h; rw [← hm] at h; exact hres _ (fun cs w => rfl) h
    all_goals (simp only [evLK_eq fr [], biK, bS] at h; exact h)
 all_goals exact h
end
end Ev
end Go.Proofs.YtkjamonkohpcnaaGreat
