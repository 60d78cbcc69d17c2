/- A vault on a store: its calls' contracts. -/
import Derived.Test.YtkjamonkohpcnaaGreatMz19
import Derived.Test.YtkjamonkohpcnaaGreatMz18
namespace Go.Proofs.YtkjamonkohpcnaaGreat.Wld
open Go Ev Sha Aes Orc Node Rec Chn Jrn Cau Sto Ivs Ctr Aut
open Rig (Fnc_takeR RigP Rg rgM z64 app_of RigA)
open Tree (TreP TreA Tre treM TI Same getT_ok putT_ok GetI PutI updB getT putT)
set_option linter.unusedVariables false
set_option linter.unusedSimpArgs false
set_option maxRecDepth 100000
/-- It returns v; the state is one of P. -/
def AQ (a : RigA) (A : StoA) (B : VA) (P : Sy → Prop) (v : Value) : Ending → List Blk → Prop := fun e M => ∃ S', P S' ∧ e = .returned v ∧ M = syM a A B S'
theorem call_a {P : Program} {f : FuncId} {args : List Value} {a : RigA} {A : StoA} {B : VA} {S : Sy} {Q : Sy → Prop} {v : Value} {M R : List Blk} {k : Kv} {pan : Kp} (h : Fnc P f args (syM a A B S) (AQ a A B Q v)) (ht : TakesG M (syM a A B S) R)
    (hk : ∀ S', Q S' → k v (syM a A B S' ++ R)) : Cl P f args M k pan :=
  call_g h ht fun e A' ⟨S', h1, h2, h3⟩ => by subst h2; subst h3; exact hk S' h1
theorem sy_2 (a : RigA) (A : StoA) (B : VA) (r : RigP) (o : Orc) (V : StoV) (v : VP) : syM a A B ⟨r, o, V, v⟩ = (sysM a r o A V ++ [vB B A.sn v]) ++ [kB B.kn v.k, rwB B.wn v.x] := by
  unfold syM vM; rw [List.append_assoc]; rfl
theorem sy_3 (a : RigA) (A : StoA) (B : VA) (r : RigP) (o : Orc) (V : StoV) (v : VP) : syM a A B ⟨r, o, V, v⟩ = (sysM a r o A V ++ [vB B A.sn v, kB B.kn v.k]) ++ [rwB B.wn v.x] := by
  unfold syM vM; rw [List.append_assoc]; rfl
section
variable {a : RigA} {A : StoA} {B : VA} {on : Nat} {S : Sy} {f0 f1 : Nat → ByteArray} {m b : Nat}
/-- What blocks the leaves may have. -/
def FB (f : Nat → ByteArray) : Prop := ∀ l, l < 64 → f l = z64 ∨ kdOk (f l)
theorem FB.upd {f : Nat → ByteArray} (h : FB f) (l : Nat) {s : ByteArray} (hs : s = z64 ∨ kdOk s) : FB (updB f l s) := fun j hj => by
  unfold updB; split
  · exact hs
  · exact h j hj
theorem FB.fs {f0 f1 : Nat → ByteArray} (h0 : FB f0) (h1 : FB f1) (d : Int) : FB (fs f0 f1 d) := by unfold Wld.fs; split <;> assumption
def up0 (f0 : Nat → ByteArray) (d : Int) (l : Nat) (s : ByteArray) : Nat → ByteArray := if d = 0 then updB f0 l s else f0
def up1 (f1 : Nat → ByteArray) (d : Int) (l : Nat) (s : ByteArray) : Nat → ByteArray := if d = 0 then f1 else updB f1 l s
theorem FB.up {f0 f1 : Nat → ByteArray} (h0 : FB f0) (h1 : FB f1) (d : Int) (l : Nat) {s : ByteArray} (hs : s = z64 ∨ kdOk s) : FB (up0 f0 d l s) ∧ FB (up1 f1 d l s) := by
  unfold up0 up1
  constructor
  · split
    · exact h0.upd l hs
    · exact h0
  · split
    · exact h1
    · exact h1.upd l hs
open Classical in
/-- A leaf's data. -/
noncomputable def dat (k : Nat → Int) (s : ByteArray) : ByteArray := if s = z64 then z48 else bodyS k s
theorem w_read (h : WI a A on S f0 f1 m b) (hf : FB f0 ∧ FB f1) {d : Int} {l : Nat} (hd : d = 0 ∨ d = 1) (hl : l < 64) (hb : b ≤ 1099511610000) :
    Fnc Tryz.prog 32 [pt B.vn, .int .i64 d, .int .i64 l] (syM a A B S)
      (AQ a A B (fun S' => WI a A on S' f0 f1 m (b + 7) ∧ S'.v = S.v) (.tuple #[.string (dat S.v.k (fs f0 f1 d l)), .int .i64 0])) := by
  obtain ⟨r, o, V, v⟩ := S
  have hp := got h hd hl
  obtain ⟨q, eq⟩ : ∃ q, q = getO r o.ts V d l := ⟨_, rfl⟩
  have eq' : getO r o.ts V d l = q := eq.symm
  rw [show (⟨r, o, V, v⟩ : Sy).r = r from rfl, show (⟨r, o, V, v⟩ : Sy).o = o from rfl, show (⟨r, o, V, v⟩ : Sy).V = V from rfl, eq'] at hp
  have hs := readv a r o A V B v d l (h.can hb) h.key q eq (fun _ hi => by
    rw [hp.s hi]
    rcases (FB.fs hf.1 hf.2 d) l hl with h1 | h1
    · exact absurd h1 (hp.is.1 hi)
    · exact h1)
  have hv : readS v.k q = dat v.k (fs f0 f1 d l) := by
    unfold readS dat
    rw [if_neg (by simp [hp.e])]
    by_cases hz : fs f0 f1 d l = z64
    · rw [if_pos hz]
      have : q.is = false := by
        cases hi : q.is with
        | false => rfl
        | true => exact absurd hz (hp.is.1 hi)
      rw [if_pos this]
    · rw [if_neg hz]
      have hi := hp.is.2 hz
      rw [if_neg (by simp [hi]), hp.s hi]
  rw [hv, hp.e] at hs
  rw [sy_3]
  refine Fnc_mono (Fnc_more hs) ?_
  rintro e M ⟨A', h1, o', h2, h3, h4, h5⟩
  subst h4; subst h1
  exact ⟨⟨q.r, o', q.V.fl 0, v⟩, ⟨hp.wi o' (h2.trans h.on) h3, rfl⟩, h5, (sy_3 _ _ _ _ _ _ _).symm⟩
theorem numX_ok {r : RigP} {V : StoV} {x : RwP} (h : VOk r V x) (hn : x.next < x.many) : VOk (numR r V x) (numV V x) (numX x) := by
  have hr := h.row
  unfold rowOk at hr
  by_cases hlt : x.next < x.top
  · unfold numR numV numX
    rw [if_pos hlt, if_pos hlt, if_pos hlt]
    exact ⟨⟨by show 0 ≤ x.next + 1; omega, by show x.next + 1 ≤ x.top; omega, by show x.top ≤ x.many; omega, by show x.many ≤ _; omega⟩, h.top, h.reg, h.fine, h.ok, h.att⟩
  · unfold numR numV numX
    rw [if_neg hlt, if_neg hlt, if_neg hlt]
    have hN : needN x = min (x.top + 16) x.many := by unfold needN; rw [if_neg (by omega)]
    have hi : ivOk V.is (needN x) := by unfold ivOk; rw [h.top]; omega
    exact ⟨⟨by show 0 ≤ x.next + 1; omega, by show x.next + 1 ≤ needN x; omega, by show needN x ≤ x.many; omega, by show x.many ≤ _; omega⟩, rfl, to_ok h.reg hi, fine_sr h.fine _, h.ok, h.att⟩
theorem same_num (r : RigP) (V : StoV) (x : RwP) : Same r (numR r V x) := by
  unfold numR
  split
  · exact Same.refl r
  · unfold srF; exact ⟨rfl, rfl⟩
theorem wi_seal {r : RigP} {o : Orc} {V : StoV} {v : VP} (h : WI a A on ⟨r, o, V, v⟩ f0 f1 m b) (hn : v.x.next < v.x.many) : WI a A on ⟨numR r V v.x, o, numV V v.x, sealX v⟩ f0 f1 (m + 1) b := by
  obtain ⟨F0, h0⟩ := h.t0
  obtain ⟨F1, h1⟩ := h.t1
  have e0 : (numV V v.x).t0 = V.t0 := by unfold numV; split <;> rfl
  have e1 : (numV V v.x).t1 = V.t1 := by unfold numV; split <;> rfl
  have hc := h.cnt
  have s0 := h.sh0
  have s1 := h.sh1
  simp only at hc s0 s1
  refine ⟨sok_num h.sok _, h.on, ⟨F0, ?_⟩, ⟨F1, ?_⟩, ?_, ?_, ?_, ?_, h.len, numX_ok h.vok hn, h.key, ⟨by show 0 ≤ v.n + 1; omega, by show v.n + 1 ≤ ((m + 1 : Nat) : Int); omega⟩⟩
  · show TI _ (numV V v.x).t0 F0 f0
    rw [e0]; exact h0.same (same_num _ _ _)
  · show TI _ (numV V v.x).t1 F1 f1
    rw [e1]; exact h1.same (same_num _ _ _)
  · show (numV V v.x).t0.d = 0
    rw [e0]; exact h.d0
  · show (numV V v.x).t1.d = 1
    rw [e1]; exact h.d1
  · show (numV V v.x).t0.sheet.length ≤ _
    rw [e0]; omega
  · show (numV V v.x).t1.sheet.length ≤ _
    rw [e1]; omega
theorem w_write (h : WI a A on S f0 f1 m b) {d : Int} {l : Nat} {s : ByteArray} (hd : d = 0 ∨ d = 1) (hl : l < 64) (hs48 : s.size = 48) (hn : S.v.x.next < S.v.x.many) (hm : m ≤ 50) (hb : b ≤ 1099511610000) :
    Fnc Tryz.prog 70 [pt B.vn, .int .i64 d, .int .i64 l, .string s] (syM a A B S)
      (AQ a A B (fun S' => WI a A on S' (up0 f0 d l (sealB S.v s)) (up1 f1 d l (sealB S.v s)) (m + 8) (b + 13) ∧ S'.v = sealX S.v) (.int .i64 0)) := by
  obtain ⟨r, o, V, v⟩ := S
  have hk := sealB_ok h.vok hn hs48
  have hw := wi_seal h hn
  have hp := put hw hd hl hk.1 (by omega)
  obtain ⟨q, eq⟩ : ∃ q, q = putO (numR r V v.x) o.ts (numV V v.x) d l (sealB v s) := ⟨_, rfl⟩
  have hs := write_ a r o A V B v d l s (h.can hb) h.vok hn h.key hs48 ⟨h.cnt.1, by have := h.cnt.2; simp only at this; omega⟩ q eq
  have hp : PutW a A on ⟨numR r V v.x, o, numV V v.x, sealX v⟩ f0 f1 (m + 1) b d l (sealB v s) q := by rw [eq]; exact hp
  rw [hp.e] at hs
  refine Fnc_mono hs ?_
  rintro e M ⟨o', h2, h3, h4, h5⟩
  subst h4
  exact ⟨⟨q.r, o', q.V.fl 0, sealX v⟩, ⟨hp.wi o' (h2.trans h.on) h3, rfl⟩, h5, rfl⟩
theorem orc_of (on : Nat) (ts : List ByteArray) : ∃ o : Orc, o.on = on ∧ o.ts = ts := by
  have hl := rowT_len ts
  exact ⟨⟨on, 0, ts, .at_ 0 ts.length [], ⟨hl, Nat.le_refl _, by rw [List.append_nil]; exact hl⟩⟩, rfl, rfl⟩
theorem w_copy (h : WI a A on S f0 f1 m b) {d e : Int} {l t : Nat} (hd : d = 0 ∨ d = 1) (hl : l < 64) (he : e = 0 ∨ e = 1) (ht : t < 64) (hz : (fs f0 f1 d l).size = 64) (hm : m ≤ 57) (hb : b ≤ 1099511600000) :
    Fnc Tryz.prog 71 [pt B.vn, .int .i64 d, .int .i64 l, .int .i64 e, .int .i64 t] (syM a A B S)
      (AQ a A B (fun S' => WI a A on S' (up0 f0 e t (fs f0 f1 d l)) (up1 f1 e t (fs f0 f1 d l)) (m + 7) (b + 20) ∧ S'.v = S.v) (.int .i64 0)) := by
  obtain ⟨r, o, V, v⟩ := S
  have hg := got h hd hl
  obtain ⟨p, ep⟩ : ∃ p, p = getO r o.ts V d l := ⟨_, rfl⟩
  have hg : GotI a A on ⟨r, o, V, v⟩ f0 f1 m b d l p := by rw [ep]; exact hg
  have hbl : (if p.is then p.s else z64) = fs f0 f1 d l := by
    by_cases hi : p.is = true
    · rw [if_pos hi, hg.s hi]
    · rw [if_neg hi]
      by_cases hzz : fs f0 f1 d l = z64
      · exact hzz.symm
      · exact absurd (hg.is.2 hzz) hi
  obtain ⟨q, eq⟩ : ∃ q, q = putO p.r p.ts (p.V.fl 0) e t (if p.is then p.s else z64) := ⟨_, rfl⟩
  obtain ⟨o1, ho1, ho2⟩ := orc_of on p.ts
  have hw := hg.wi o1 ho1 ho2
  have hc := hw.can (by omega)
  have hq : putO p.r o1.ts (p.V.fl 0) e t (fs f0 f1 d l) = q := by rw [ho2, eq, hbl]
  have hp : PutW a A on ⟨p.r, o1, p.V.fl 0, v⟩ f0 f1 m (b + 7) e t (fs f0 f1 d l) q := by
    have := put hw he ht hz hm
    rw [show putO (⟨p.r, o1, p.V.fl 0, v⟩ : Sy).r (⟨p.r, o1, p.V.fl 0, v⟩ : Sy).o.ts (⟨p.r, o1, p.V.fl 0, v⟩ : Sy).V e t (fs f0 f1 d l) = q from hq] at this
    exact this
  have hs := copy_ok a r o A V B v d l e t (h.can (by omega)) p q ep hg.e ⟨by rw [show o.on = o1.on from (h.on.trans ho1.symm)]; exact hc.ok, hc.att, hc.fl, by rw [← ho2]; exact hc.len⟩ eq
  rw [hp.e] at hs
  rw [sy_2]
  refine Fnc_mono (Fnc_more hs) ?_
  rintro x M ⟨A', h1, o', h2, h3, h4, h5⟩
  subst h4; subst h1
  exact ⟨⟨q.r, o', q.V.fl 0, v⟩, ⟨hp.wi o' (h2.trans h.on) h3, rfl⟩, h5, (sy_2 _ _ _ _ _ _ _).symm⟩
theorem w_get (h : WI a A on S f0 f1 m b) {d : Int} {l : Nat} (hd : d = 0 ∨ d = 1) (hl : l < 64) (hz : fs f0 f1 d l ≠ z64) (hb : b ≤ 1099511610000) :
    Fnc Tryz.prog 44 [pt A.sn, .int .i64 d, .int .i64 l] (syM a A B S)
      (AQ a A B (fun S' => WI a A on S' f0 f1 m (b + 7) ∧ S'.v = S.v) (.tuple #[.string (fs f0 f1 d l), .bool true, .int .i64 0])) := by
  obtain ⟨r, o, V, v⟩ := S
  have hp := got h hd hl
  have hc := h.can hb
  have hs := get_ a r o A V d l hc.ok hc.att hc.fl hc.len
  obtain ⟨q, eq⟩ : ∃ q, q = getO r o.ts V d l := ⟨_, rfl⟩
  have hp : GotI a A on ⟨r, o, V, v⟩ f0 f1 m b d l q := by rw [eq]; exact hp
  have hi := hp.is.2 hz
  rw [← eq, hp.e, hi, hp.s hi] at hs
  show Fnc _ _ _ (sysM a r o A V ++ vM B A.sn v) _
  refine Fnc_mono (Fnc_more hs) ?_
  rintro x M ⟨A', h1, o', h2, h3, h4, h5⟩
  subst h4; subst h1
  exact ⟨⟨q.r, o', q.V.fl 0, v⟩, ⟨hp.wi o' (h2.trans h.on) h3, rfl⟩, h5, rfl⟩
end
end Go.Proofs.YtkjamonkohpcnaaGreat.Wld
/- A store made anew: both trees are bare ones. -/
namespace Go.Proofs.YtkjamonkohpcnaaGreat.Wld
open Go Ev Sha Aes Orc Node Rec Chn Jrn Cau Sto Ivs Ctr Aut
open Rig (Fnc_takeR RigP Rg rgM z64 app_of RigA)
open Tree (TreP TreA Tre treM TI Same getT_ok putT_ok GetI PutI updB getT putT dg)
set_option linter.unusedVariables false
set_option linter.unusedSimpArgs false
set_option maxRecDepth 100000
/-- What lies in a device's block. -/
def nw_ (r : RigP) (d : Int) (j : Nat) : ByteArray := ((r.dev d) j).now
theorem setDev_dev (r : RigP) (d d' : Int) (x : Rig.DevC) (hd : d = 0 ∨ d = 1) (hd' : d' = 0 ∨ d' = 1) : (r.setDev d x).dev d' = if d' = d then x else r.dev d' := by
  rcases hd with rfl | rfl <;> rcases hd' with rfl | rfl <;> rfl
theorem nw_wr (r : RigP) (d d' : Int) (i j : Nat) (s : ByteArray) (hd : d = 0 ∨ d = 1) (hd' : d' = 0 ∨ d' = 1) : nw_ (wrF r d i s) d' j = if d' = d ∧ j = i then s else nw_ r d' j := by
  unfold nw_ wrF
  rw [setDev_dev _ _ _ _ hd hd']
  by_cases h : d' = d
  · rw [if_pos h]
    subst h
    unfold Rig.writeD Rig.updD
    by_cases hj : j = i
    · rw [if_pos hj, if_pos ⟨rfl, hj⟩]
    · rw [if_neg hj, if_neg (fun h => hj h.2)]; rfl
  · rw [if_neg h, if_neg (fun h' => h h'.1)]; rfl
theorem nw_fl (r : RigP) (d d' : Int) (j : Nat) (hd : d = 0 ∨ d = 1) (hd' : d' = 0 ∨ d' = 1) : nw_ (flF r d) d' j = nw_ r d' j := by
  unfold nw_ flF
  rw [setDev_dev _ _ _ _ hd hd']
  by_cases h : d' = d
  · rw [if_pos h]; subst h; rfl
  · rw [if_neg h]; rfl
theorem nw_sr (r : RigP) (s : ByteArray) (d' : Int) (j : Nat) : nw_ (srF r s) d' j = nw_ r d' j := by unfold nw_ srF; rfl
theorem nw_layN (r : RigP) (d : Nat) (hd : d ≤ 1) (d' : Int) (hd' : d' = 0 ∨ d' = 1) (j : Nat) : ∀ k, nw_ (layN r d k) d' j = if d' = (d : Int) ∧ 161 ≤ j ∧ j < 161 + k then (bare (high (j - 161))).1 else nw_ r d' j
  | 0 => by rw [if_neg (by omega)]; rfl
  | k + 1 => by
    rw [layN_s, nw_wr _ _ _ _ _ _ (by omega) hd', nw_layN r d hd d' hd' j k]
    by_cases h : d' = (d : Int) ∧ j = 161 + k
    · rw [if_pos h, if_pos ⟨h.1, by omega, by omega⟩, show j - 161 = k by omega]
    · rw [if_neg h]
      by_cases h2 : d' = (d : Int) ∧ 161 ≤ j ∧ j < 161 + k
      · rw [if_pos h2, if_pos ⟨h2.1, h2.2.1, by omega⟩]
      · rw [if_neg h2, if_neg (fun h3 => h2 ⟨h3.1, h3.2.1, by have : j ≠ 161 + k := fun e => h ⟨h3.1, e⟩; omega⟩)]
theorem nw_layL (r : RigP) (d : Nat) (hd : d ≤ 1) (d' : Int) (hd' : d' = 0 ∨ d' = 1) (j : Nat) : ∀ k, nw_ (layL r d k) d' j = if d' = (d : Int) ∧ 224 ≤ j ∧ j < 224 + k then (bare 0).1 else nw_ r d' j
  | 0 => by rw [if_neg (by omega)]; rfl
  | k + 1 => by
    rw [layL_s, nw_wr _ _ _ _ _ _ (by omega) hd', nw_layL r d hd d' hd' j k]
    by_cases h : d' = (d : Int) ∧ j = 224 + k
    · rw [if_pos h, if_pos ⟨h.1, by omega, by omega⟩]
    · rw [if_neg h]
      by_cases h2 : d' = (d : Int) ∧ 224 ≤ j ∧ j < 224 + k
      · rw [if_pos h2, if_pos ⟨h2.1, h2.2.1, by omega⟩]
      · rw [if_neg h2, if_neg (fun h3 => h2 ⟨h3.1, h3.2.1, by have : j ≠ 224 + k := fun e => h ⟨h3.1, e⟩; omega⟩)]
theorem nw_fr (r : RigP) (d : Nat) (hd : d ≤ 1) (d' : Int) (hd' : d' = 0 ∨ d' = 1) (j : Nat) (hj : 161 ≤ j ∧ j < 288) : nw_ (frR r d 0) d' j = if d' = (d : Int) then (if j < 224 then (bare (high (j - 161))).1 else (bare 0).1) else nw_ r d' j := by
  unfold frR layR
  rw [nw_wr _ _ _ _ _ _ (by omega) hd', if_neg (by omega), nw_layL _ d hd d' hd', nw_layN _ d hd d' hd']
  by_cases h : d' = (d : Int)
  · rw [if_pos h]
    by_cases h2 : j < 224
    · rw [if_neg (by omega), if_pos ⟨h, by omega, by omega⟩, if_pos h2]
    · rw [if_pos ⟨h, by omega, by omega⟩, if_neg h2]
  · rw [if_neg (fun h2 => h h2.1), if_neg (fun h2 => h h2.1), if_neg h]
/-- A bare node. -/
noncomputable def bF (n : Nat) : ByteArray := (bare (high n)).1
theorem high_pos {n : Nat} (h : n < 63) : high n ≠ 0 := by have := dep_le n; unfold high; omega
theorem high_kid {n s : Nat} (hs : s ≤ 1) (hm : 2 * n + 1 + s < 63) : high n = high (2 * n + 1 + s) + 1 := by
  have h1 := dep_up (n := 2 * n + 1 + s) (by omega) hm
  rw [show (2 * n + 1 + s - 1) / 2 = n by omega] at h1
  have h2 := dep_le (2 * n + 1 + s)
  unfold high
  omega
theorem high_last {n : Nat} (h : n < 63) (h2 : 31 ≤ n) : high n = 1 := by
  unfold high dep
  rw [if_neg (by omega), if_neg (by omega), if_neg (by omega), if_neg (by omega), if_neg (by omega)]
theorem split_dup (d : Dg) {s : Nat} (hs : s ≤ 1) : dl (splitD (dup d) s) = dl d := by
  apply Tree.dl_eq
  intro j hj
  unfold splitD
  rw [if_pos (dup_size d)]
  unfold halfD
  have hd : (dup d).data.toList = dl d ++ dl d := by unfold dup; rw [ByteArray.data_append, Array.toList_append]; rfl
  rw [hd]
  have hc : s = 0 ∨ s = 1 := by omega
  rcases hc with rfl | rfl
  · rw [List.getElem?_append_left (by rw [dl_len]; omega), show 32 * 0 + j = j by omega, Tree.dl_get hj]; rfl
  · rw [List.getElem?_append_right (by rw [dl_len]; omega), dl_len, show 32 * 1 + j - 32 = j by omega, Tree.dl_get hj]; rfl
theorem dg_bare {m : Nat} (hm : m < 127) : dg bF (fun _ => z64) m = (bare (if m < 63 then high m else 0)).2 := by
  unfold dg
  by_cases h : m < 63
  · rw [if_pos h, if_pos h]; exact bare_2 (high_pos h)
  · rw [if_neg h, if_neg h, bare_0]
theorem ti_bare {r : RigP} {d : Int} (hd : d = 0 ∨ d = 1) (h : ∀ j, 161 ≤ j → j < 288 → nw_ r d j = if j < 224 then (bare (high (j - 161))).1 else (bare 0).1) : TI r ⟨d, (bare 6).2, [], []⟩ bF (fun _ => z64) := by
  refine ⟨hd, fun n _ => bare_size _, fun n _ => z64_size, ?_, fun n s hn hs => ?_, fun n s _ hg => (by cases hg), fun n hn _ => ?_, fun n s _ hg => (by cases hg), fun n hn _ => ?_⟩
  · show (bare 6).2 = D (p1 (bF 0))
    unfold bF
    rw [bare_2 (high_pos (by omega)), show high 0 = 6 from rfl]
  · rw [dg_bare (by omega)]
    unfold bF
    by_cases hm : 2 * n + 1 + s < 63
    · rw [if_pos hm, high_kid hs hm, bare_s]
      exact split_dup _ hs
    · rw [if_neg hm, high_last hn (by omega), bare_s]
      exact split_dup _ hs
  · have := h (161 + n) (by omega) (by omega)
    rw [if_pos (by omega), show 161 + n - 161 = n by omega] at this
    exact this
  · have := h (224 + n) (by omega) (by omega)
    rw [if_neg (by omega), bare_0] at this
    exact this
theorem fm_nw (r : RigP) (super : ByteArray) {d : Int} (hd : d = 0 ∨ d = 1) (j : Nat) (h1 : 161 ≤ j) (h2 : j < 288) : nw_ (fmR r super) d j = if j < 224 then (bare (high (j - 161))).1 else (bare 0).1 := by
  unfold fmR
  rw [nw_sr, nw_fl _ _ _ _ (.inr rfl) hd, nw_fl _ _ _ _ (.inl rfl) hd, nw_fr _ 1 (by omega) d hd j ⟨h1, h2⟩]
  rcases hd with rfl | rfl
  · rw [if_neg (by decide), nw_fr _ 0 (by omega) 0 (.inl rfl) j ⟨h1, h2⟩, if_pos (by rfl)]
  · rw [if_pos (by rfl)]
/-- A vault on a store made anew. -/
theorem wi_new {a : RigA} {A : StoA} {on : Nat} {r : RigP} {o : Orc} {V : StoV} {super : ByteArray} {g0 g1 g2 : Int} {k : Nat → Int} (hf : Fine r) (hok : SOk ⟨A, V⟩ a.rn on) (hV : V = fmV0 a.rn on g0 g1 g2 super) (ho : o.on = on) (hg : 1 ≤ g2 ∧ g2 ≤ 1099511627776) (hk : ∀ i, by8 (k i)) :
    WI a A on ⟨fmR r super, o, V, ⟨k, ⟨0, 0, g2⟩, 0⟩⟩ (fun _ => z64) (fun _ => z64) 0 o.ts.length := by
  subst hV
  refine ⟨hok, ho, ⟨bF, ti_bare (.inl rfl) (fm_nw r super (.inl rfl))⟩, ⟨bF, ti_bare (.inr rfl) (fm_nw r super (.inr rfl))⟩, rfl, rfl, Nat.le_refl _, Nat.le_refl _, Nat.le_refl _, ⟨⟨Int.le_refl _, Int.le_refl _, by show 0 ≤ g2; omega, hg.2⟩, rfl, fmV_ok super, fine_fm hf super, rfl, rfl⟩, hk, ⟨Int.le_refl _, Int.le_refl _⟩⟩
end Go.Proofs.YtkjamonkohpcnaaGreat.Wld
/- A commit on a rig that is fine: plain laws of its steps. -/
namespace Go.Proofs.YtkjamonkohpcnaaGreat.Cmt
open Go Ev Sha Aes Orc Node Rec Chn Jrn Cau Sto Srt Stg Wld
open Rig (Fnc_takeR RigP Rg rgM readR writeR flushR setRegR z64 app_of tick comes mayE RigA)
open Tree (TreP TreA Tre treM TI Same getS setS updB ShJ)
set_option linter.unusedVariables false
set_option linter.unusedSimpArgs false
set_option maxRecDepth 100000
/-- A step that is done, and changes nothing of trees. -/
structure Ste (r : RigP) (x : RigP × Int) : Prop where
  e : x.2 = 0
  fine : Fine x.1
  nw : ∀ d, d = 0 ∨ d = 1 → ∀ j, 161 ≤ j → nw_ x.1 d j = nw_ r d j
theorem ste_write {r : RigP} (h : Fine r) {d : Int} (hd : d = 0 ∨ d = 1) {i : Nat} (hi : i < 161) {s : ByteArray} (hs : s.size = 64) : Ste r (writeR r d i s) := by
  rw [h.write hd (by omega) hs]
  exact ⟨rfl, h.wrF _ _ _, fun d' hd' j hj => by rw [nw_wr r d d' i j s hd hd', if_neg (by omega)]⟩
theorem flush_eq {r : RigP} (h : Fine r) {d : Int} (hd : d = 0 ∨ d = 1) : flushR r d = (flF r d, 0) := by
  unfold flushR; rw [mayE_ok hd (by omega) (by omega), if_neg (by simp), h.tick]; rfl
theorem ste_flush {r : RigP} (h : Fine r) {d : Int} (hd : d = 0 ∨ d = 1) : Ste r (flushR r d) := by
  rw [flush_eq h hd]
  exact ⟨rfl, fine_fl h _, fun d' hd' j _ => nw_fl r d d' j hd hd'⟩
theorem ste_lp {f : Nat → RigP → RigP × Int} : ∀ (n i : Nat) (r : RigP), Fine r → (∀ k r, Fine r → i ≤ k → k < i + n → Ste r (f k r)) → Ste r (lp f n i r)
  | 0, i, r, h, _ => ⟨rfl, h, fun _ _ _ _ => rfl⟩
  | n + 1, i, r, h, hf => by
    have h1 := hf i r h (Nat.le_refl _) (by omega)
    rw [lp_ok h1.e]
    have h2 := ste_lp n (i + 1) (f i r).1 h1.fine fun k r' hr hk hk2 => hf k r' hr (by omega) (by omega)
    exact ⟨h2.e, h2.fine, fun d hd j hj => (h2.nw d hd j hj).trans (h1.nw d hd j hj)⟩
theorem ste_wrA {r : RigP} (h : Fine r) {d : Int} (hd : d = 0 ∨ d = 1) {at_ : Nat} {l : List ByteArray} (hl : at_ + l.length ≤ 161) (hs : ∀ s ∈ l, s.size = 64) : Ste r (wrA r d at_ l) := by
  unfold wrA
  refine ste_lp _ _ _ h fun k r' hr _ hk => ?_
  unfold wrL
  have hk' : k < l.length := by omega
  rw [List.getElem?_eq_getElem hk']
  exact ste_write hr hd (by omega) (hs _ (List.getElem_mem hk'))
theorem ste_fl {r : RigP} (h : Fine r) {l : List Nat} (hl : ∀ d ∈ l, d ≤ 1) : Ste r (lp (flG l) l.length 0 r) := by
  refine ste_lp _ _ _ h fun k r' hr _ hk => ?_
  unfold flG
  have hk' : k < l.length := by omega
  rw [List.getElem?_eq_getElem hk']
  have := hl _ (List.getElem_mem hk')
  exact ste_flush hr (by simp only [Option.getD_some]; omega)
theorem getS_mem {k : Int} {s : ByteArray} : ∀ {l : List (Int × ByteArray)}, (l.map (·.1)).Nodup → (getS l k = some s ↔ (k, s) ∈ l)
  | [], _ => by unfold getS; simp
  | (a, u) :: t, h => by
    have h' := List.nodup_cons.1 (show (a :: t.map (·.1)).Nodup from h)
    unfold getS
    by_cases e : k = a
    · subst e
      rw [if_pos rfl, List.mem_cons]
      constructor
      · intro h; injection h with h; subst h; exact .inl rfl
      · rintro (h | h)
        · injection h with _ h; rw [h]
        · exact absurd (List.mem_map_of_mem (f := (·.1)) h) h'.1
    · rw [if_neg e, getS_mem h'.2, List.mem_cons]
      constructor
      · exact .inr
      · rintro (h | h)
        · injection h with h _; exact absurd h e
        · exact h
theorem getS_perm {l m : List (Int × ByteArray)} (hp : l.Perm m) (hn : (l.map (·.1)).Nodup) (k : Int) : getS l k = getS m k := by
  have hm : (m.map (·.1)).Nodup := (hp.map (·.1)).nodup_iff.1 hn
  cases e : getS l k with
  | some s => exact ((getS_mem hm).2 (hp.mem_iff.1 ((getS_mem hn).1 e))).symm
  | none =>
    cases e2 : getS m k with
    | none => rfl
    | some s =>
      have := (getS_mem hn).2 (hp.mem_iff.2 ((getS_mem hm).1 e2))
      rw [e] at this; cases this
structure Hm (r : RigP) (d : Int) (l : List (Int × ByteArray)) (x : RigP × Int) : Prop where
  e : x.2 = 0
  fine : Fine x.1
  on : ∀ j : Nat, 161 ≤ j → nw_ x.1 d j = (getS l j).getD (nw_ r d j)
  off : ∀ d', (d' = 0 ∨ d' = 1) → d' ≠ d → ∀ j, nw_ x.1 d' j = nw_ r d' j
theorem hm_lp {d : Int} (hd : d = 0 ∨ d = 1) (L : List (Int × ByteArray)) : ∀ (n i : Nat) (l : List (Int × ByteArray)) (r : RigP), Fine r → L.drop i = l → l.length = n → (l.map (·.1)).Nodup → (∀ p ∈ l, 161 ≤ p.1 ∧ p.1 < 288 ∧ p.2.size = 64) → Hm r d l (lp (hmS d L) n i r)
  | 0, i, l, r, h, hL, hl, _, _ => by
    have : l = [] := List.length_eq_zero_iff.1 hl
    subst this
    exact ⟨rfl, h, fun j _ => rfl, fun _ _ _ _ => rfl⟩
  | n + 1, i, [], r, h, hL, hl, _, _ => by cases hl
  | n + 1, i, p :: t, r, h, hL, hl, hn, hk => by
    have hn' := List.nodup_cons.1 (show (p.1 :: t.map (·.1)).Nodup from hn)
    have hp := hk p List.mem_cons_self
    have hi : L[i]? = some p := by
      have := congrArg (·[0]?) hL
      simpa using this
    obtain ⟨k, hkk⟩ : ∃ k : Nat, p.1 = k := ⟨p.1.toNat, by omega⟩
    have hw : hmS d L i r = (wrF r d k p.2, 0) := by
      unfold hmS
      rw [hi]
      show writeR r d p.1 p.2 = _
      rw [hkk]
      exact h.write hd (by omega) hp.2.2
    rw [lp_ok (by rw [hw])]
    rw [hw]
    have hL' : L.drop (i + 1) = t := by rw [← List.drop_drop, hL]; rfl
    have ih := hm_lp hd L n (i + 1) t (wrF r d k p.2) (h.wrF _ _ _) hL' (by simpa using hl) hn'.2 fun q hq => hk q (List.mem_cons_of_mem _ hq)
    refine ⟨ih.e, ih.fine, fun j hj => ?_, fun d' hd' hne j => ?_⟩
    · rw [ih.on j hj, nw_wr r d d k j p.2 hd hd]
      show _ = (if (j : Int) = p.1 then some p.2 else getS t j).getD _
      by_cases e : (j : Int) = p.1
      · rw [if_pos e, if_pos ⟨rfl, by omega⟩]
        have : getS t j = none := by
          cases e3 : getS t j with
          | none => rfl
          | some s => exact absurd (List.mem_map_of_mem (f := (·.1)) ((getS_mem hn'.2).1 e3)) (by rw [show ((j : Int), s).1 = p.1 from e]; exact hn'.1)
        rw [this]; rfl
      · rw [if_neg e, if_neg (by omega)]
    · rw [ih.off d' hd' hne j, nw_wr r d d' k j p.2 hd hd', if_neg (fun h => hne h.1)]
theorem hm_ok {r : RigP} (h : Fine r) {d : Int} (hd : d = 0 ∨ d = 1) {l : List (Int × ByteArray)} (hn : (l.map (·.1)).Nodup) (hk : ∀ p ∈ l, 161 ≤ p.1 ∧ p.1 < 288 ∧ p.2.size = 64) : Hm r d l (hmG r d l) := by
  unfold hmG
  have hp := srt_perm l
  have h1 := hm_lp hd (srt l) l.length 0 (srt l) r h rfl hp.length_eq ((hp.map (·.1)).nodup_iff.2 hn) fun p hm => hk p (hp.mem_iff.1 hm)
  exact ⟨h1.e, h1.fine, fun j hj => by rw [h1.on j hj, getS_perm hp ((hp.map (·.1)).nodup_iff.2 hn)], h1.off⟩
end Go.Proofs.YtkjamonkohpcnaaGreat.Cmt
/- What lies on a device for good: plain laws. -/
namespace Go.Proofs.YtkjamonkohpcnaaGreat.Cmt
open Go Ev Sha Aes Orc Node Rec Chn Jrn Cau Sto Srt Stg Wld
open Rig (Fnc_takeR RigP Rg rgM readR writeR flushR setRegR z64 app_of tick comes mayE RigA)
open Tree (TreP TreA Tre treM TI Same getS setS updB ShJ)
set_option linter.unusedVariables false
set_option linter.unusedSimpArgs false
set_option maxRecDepth 100000
def wrN (r : RigP) (d : Int) : Nat → List ByteArray → RigP
  | _, [] => r
  | i, s :: t => wrN (wrF r d i s) d (i + 1) t
def wrK (r : RigP) (d : Int) : List (Int × ByteArray) → RigP
  | [] => r
  | p :: t => wrK (wrF r d p.1.toNat p.2) d t
def flN (r : RigP) : List Nat → RigP
  | [] => r
  | d :: t => flN (flF r d) t
theorem lp_wrN {d : Int} (hd : d = 0 ∨ d = 1) (at_ : Nat) (L : List ByteArray) (hL : at_ + L.length ≤ 288) : ∀ (n i : Nat) (l : List ByteArray) (r : RigP), Fine r → L.drop i = l → l.length = n → i + n = L.length → (∀ s ∈ l, s.size = 64) → lp (wrL d at_ L) n i r = (wrN r d (at_ + i) l, 0)
  | 0, i, l, r, h, hl, hn, _, _ => by
    have : l = [] := List.length_eq_zero_iff.1 hn
    subst this; rfl
  | n + 1, i, [], r, h, hl, hn, _, _ => by cases hn
  | n + 1, i, s :: t, r, h, hl, hn, hi, hs => by
    have hg : L[i]? = some s := by
      have := congrArg (·[0]?) hl
      simpa using this
    have hw : wrL d at_ L i r = (wrF r d (at_ + i) s, 0) := by
      unfold wrL
      rw [hg]
      exact h.write hd (by omega) (hs s List.mem_cons_self)
    rw [lp_ok (by rw [hw]), hw]
    have hl' : L.drop (i + 1) = t := by rw [← List.drop_drop, hl]; rfl
    exact lp_wrN hd at_ L hL n (i + 1) t (wrF r d (at_ + i) s) (h.wrF _ _ _) hl' (by simpa using hn) (by omega) fun q hq => hs q (List.mem_cons_of_mem _ hq)
theorem wrA_N {r : RigP} (h : Fine r) {d : Int} (hd : d = 0 ∨ d = 1) {at_ : Nat} {l : List ByteArray} (hl : at_ + l.length ≤ 288) (hs : ∀ s ∈ l, s.size = 64) : wrA r d at_ l = (wrN r d at_ l, 0) :=
  lp_wrN hd at_ l hl l.length 0 l r h rfl rfl (by omega) hs
theorem lp_wrK {d : Int} (hd : d = 0 ∨ d = 1) (L : List (Int × ByteArray)) : ∀ (n i : Nat) (l : List (Int × ByteArray)) (r : RigP), Fine r → L.drop i = l → l.length = n → (∀ p ∈ l, 161 ≤ p.1 ∧ p.1 < 288 ∧ p.2.size = 64) → lp (hmS d L) n i r = (wrK r d l, 0)
  | 0, i, l, r, h, hL, hl, _ => by
    have : l = [] := List.length_eq_zero_iff.1 hl
    subst this; rfl
  | n + 1, i, [], r, h, hL, hl, _ => by cases hl
  | n + 1, i, p :: t, r, h, hL, hl, hk => by
    have hp := hk p List.mem_cons_self
    have hi : L[i]? = some p := by
      have := congrArg (·[0]?) hL
      simpa using this
    have hw : hmS d L i r = (wrF r d p.1.toNat p.2, 0) := by
      unfold hmS
      rw [hi]
      show writeR r d p.1 p.2 = _
      have := h.write hd (i := p.1.toNat) (s := p.2) (by omega) hp.2.2
      rw [show ((p.1.toNat : Nat) : Int) = p.1 by omega] at this
      exact this
    rw [lp_ok (by rw [hw]), hw]
    have hL' : L.drop (i + 1) = t := by rw [← List.drop_drop, hL]; rfl
    exact lp_wrK hd L n (i + 1) t (wrF r d p.1.toNat p.2) (h.wrF _ _ _) hL' (by simpa using hl) fun q hq => hk q (List.mem_cons_of_mem _ hq)
theorem hmG_K {r : RigP} (h : Fine r) {d : Int} (hd : d = 0 ∨ d = 1) {l : List (Int × ByteArray)} (hk : ∀ p ∈ l, 161 ≤ p.1 ∧ p.1 < 288 ∧ p.2.size = 64) : hmG r d l = (wrK r d (srt l), 0) := by
  unfold hmG
  have hp := srt_perm l
  exact lp_wrK hd (srt l) l.length 0 (srt l) r h rfl hp.length_eq fun p hm => hk p (hp.mem_iff.1 hm)
theorem lp_flN (L : List Nat) : ∀ (n i : Nat) (l : List Nat) (r : RigP), Fine r → L.drop i = l → l.length = n → (∀ d ∈ l, d ≤ 1) → lp (flG L) n i r = (flN r l, 0)
  | 0, i, l, r, h, hL, hl, _ => by
    have : l = [] := List.length_eq_zero_iff.1 hl
    subst this; rfl
  | n + 1, i, [], r, h, hL, hl, _ => by cases hl
  | n + 1, i, d :: t, r, h, hL, hl, hk => by
    have hd := hk d List.mem_cons_self
    have hi : L[i]? = some d := by
      have := congrArg (·[0]?) hL
      simpa using this
    have hw : flG L i r = (flF r d, 0) := by
      unfold flG
      rw [hi]
      exact flush_eq h (by show (d : Int) = 0 ∨ (d : Int) = 1; omega)
    rw [lp_ok (by rw [hw]), hw]
    have hL' : L.drop (i + 1) = t := by rw [← List.drop_drop, hL]; rfl
    exact lp_flN L n (i + 1) t (flF r d) (fine_fl h _) hL' (by simpa using hl) fun q hq => hk q (List.mem_cons_of_mem _ hq)
theorem flG_N {r : RigP} (h : Fine r) {l : List Nat} (hl : ∀ d ∈ l, d ≤ 1) : lp (flG l) l.length 0 r = (flN r l, 0) := lp_flN l l.length 0 l r h rfl rfl hl
def sf_ (r : RigP) (d : Int) (j : Nat) : ByteArray := ((r.dev d) j).safe
theorem sf_wr (r : RigP) (d d' : Int) (i j : Nat) (s : ByteArray) (hd : d = 0 ∨ d = 1) (hd' : d' = 0 ∨ d' = 1) : sf_ (wrF r d i s) d' j = sf_ r d' j := by
  unfold sf_ wrF
  rw [setDev_dev _ _ _ _ hd hd']
  by_cases h : d' = d
  · rw [if_pos h]
    subst h
    unfold Rig.writeD Rig.updD
    by_cases hj : j = i
    · rw [if_pos hj]; subst hj; rfl
    · rw [if_neg hj]; rfl
  · rw [if_neg h]; rfl
theorem sf_fl (r : RigP) (d d' : Int) (j : Nat) (hd : d = 0 ∨ d = 1) (hd' : d' = 0 ∨ d' = 1) : sf_ (flF r d) d' j = if d' = d then nw_ r d' j else sf_ r d' j := by
  unfold sf_ nw_ flF
  rw [setDev_dev _ _ _ _ hd hd']
  by_cases h : d' = d
  · rw [if_pos h, if_pos h]; subst h; rfl
  · rw [if_neg h, if_neg h]; rfl
theorem reg_sd (r : RigP) (d : Int) (x : Rig.DevC) : (r.setDev d x).reg = r.reg := by unfold Rig.RigP.setDev; split <;> rfl
theorem reg_wr (r : RigP) (d : Int) (i : Nat) (s : ByteArray) : (wrF r d i s).reg = r.reg := reg_sd _ _ _
theorem reg_wrK {d : Int} : ∀ (l : List (Int × ByteArray)) (r : RigP), (wrK r d l).reg = r.reg
  | [], _ => rfl
  | p :: t, r => (reg_wrK t (wrF r d p.1.toNat p.2)).trans (reg_wr _ _ _ _)
theorem nw_wrN {d : Int} (hd : d = 0 ∨ d = 1) {d' : Int} (hd' : d' = 0 ∨ d' = 1) (j : Nat) : ∀ (l : List ByteArray) (i : Nat) (r : RigP), nw_ (wrN r d i l) d' j = if d' = d ∧ i ≤ j ∧ j < i + l.length then (l[j - i]?).getD ByteArray.empty else nw_ r d' j
  | [], i, r => by rw [if_neg (by simp only [List.length_nil]; omega)]; rfl
  | s :: t, i, r => by
    show nw_ (wrN (wrF r d i s) d (i + 1) t) d' j = _
    rw [nw_wrN hd hd' j t (i + 1) (wrF r d i s), nw_wr r d d' i j s hd hd']
    by_cases h : d' = d ∧ i ≤ j ∧ j < i + (s :: t).length
    · rw [if_pos h]
      have h3 : j < i + (t.length + 1) := h.2.2
      by_cases hj : j = i
      · rw [if_neg (by omega), if_pos ⟨h.1, hj⟩, show j - i = 0 by omega]; rfl
      · rw [if_pos ⟨h.1, by omega, by omega⟩, show j - i = (j - (i + 1)) + 1 by omega]; rfl
    · rw [if_neg h]
      have h3 : ¬ (d' = d ∧ i ≤ j ∧ j < i + (t.length + 1)) := h
      rw [if_neg (fun k => h3 ⟨k.1, by omega, by omega⟩), if_neg (fun k => h3 ⟨k.1, by omega, by omega⟩)]
theorem sf_wrN {d : Int} (hd : d = 0 ∨ d = 1) {d' : Int} (hd' : d' = 0 ∨ d' = 1) (j : Nat) : ∀ (l : List ByteArray) (i : Nat) (r : RigP), sf_ (wrN r d i l) d' j = sf_ r d' j
  | [], i, r => rfl
  | s :: t, i, r => (sf_wrN hd hd' j t (i + 1) (wrF r d i s)).trans (sf_wr r d d' i j s hd hd')
theorem nw_wrK {d : Int} (hd : d = 0 ∨ d = 1) {d' : Int} (hd' : d' = 0 ∨ d' = 1) (j : Nat) : ∀ (l : List (Int × ByteArray)) (r : RigP), (∀ p ∈ l, 161 ≤ p.1) → nw_ (wrK r d l) d' j = nw_ r d' j ∨ (d' = d ∧ ∃ p ∈ l, p.1 = j ∧ nw_ (wrK r d l) d' j = p.2)
  | [], r, _ => .inl rfl
  | p :: t, r, h => by
    show nw_ (wrK (wrF r d p.1.toNat p.2) d t) d' j = _ ∨ _ ∧ ∃ q ∈ p :: t, q.1 = j ∧ nw_ (wrK (wrF r d p.1.toNat p.2) d t) d' j = q.2
    rcases nw_wrK hd hd' j t (wrF r d p.1.toNat p.2) (fun q hq => h q (List.mem_cons_of_mem _ hq)) with h1 | ⟨h1, q, h2, h3, h4⟩
    · rw [h1, nw_wr r d d' p.1.toNat j p.2 hd hd']
      have hp := h p List.mem_cons_self
      by_cases hj : d' = d ∧ j = p.1.toNat
      · rw [if_pos hj]; exact .inr ⟨hj.1, p, List.mem_cons_self, by omega, rfl⟩
      · rw [if_neg hj]; exact .inl rfl
    · exact .inr ⟨h1, q, List.mem_cons_of_mem _ h2, h3, h4⟩
theorem sf_wrK {d : Int} (hd : d = 0 ∨ d = 1) {d' : Int} (hd' : d' = 0 ∨ d' = 1) (j : Nat) : ∀ (l : List (Int × ByteArray)) (r : RigP), sf_ (wrK r d l) d' j = sf_ r d' j
  | [], r => rfl
  | p :: t, r => (sf_wrK hd hd' j t (wrF r d p.1.toNat p.2)).trans (sf_wr r d d' _ j _ hd hd')
structure Rc where
  seq : Int
  root : Dg
  l : List (Int × ByteArray)
def Rc.bs (x : Rc) : List ByteArray := recLs x.seq x.root x.l
noncomputable def jadd_ (J : JrP) (x : Rc) : JrP := addJs J x.seq x.root x.bs
def blks (R : List Rc) : List ByteArray := (R.map Rc.bs).flatten
def ovl (l : List (Int × ByteArray)) (C : Nat → ByteArray) : Nat → ByteArray := fun j => (getS l j).getD (C j)
def rpl : List Rc → (Nat → ByteArray) → Nat → ByteArray
  | [], C => C
  | x :: t, C => rpl t (ovl x.l C)
theorem ovl_nil (C : Nat → ByteArray) : ovl [] C = C := rfl
theorem rpl_app (x : Rc) : ∀ (R : List Rc) (C : Nat → ByteArray), rpl (R ++ [x]) C = ovl x.l (rpl R C)
  | [], C => rfl
  | y :: t, C => rpl_app x t (ovl y.l C)
theorem rpl_pt {j : Nat} : ∀ (R : List Rc) {C C' : Nat → ByteArray}, C j = C' j → rpl R C j = rpl R C' j
  | [], _, _, h => h
  | x :: t, C, C', h => rpl_pt t (by unfold ovl; rw [h])
theorem rpl_fix {j : Nat} {s : ByteArray} : ∀ (R : List Rc) {C C' : Nat → ByteArray}, rpl R C j = s → C' j = s → rpl R C' j = s
  | [], _, _, _, h => h
  | x :: t, C, C', h, h' => by
    show rpl t (ovl x.l C') j = s
    cases e : getS x.l j with
    | some u =>
      have : ovl x.l C' j = ovl x.l C j := by unfold ovl; rw [e]; rfl
      rw [rpl_pt t this]; exact h
    | none =>
      refine rpl_fix t (C := ovl x.l C) h ?_
      unfold ovl; rw [e]; exact h'
def sqs : Int → List Rc → Prop
  | _, [] => True
  | s, x :: t => x.seq = s + 1 ∧ sqs x.seq t
theorem sqs_app {x : Rc} : ∀ {t : List Rc} {J : JrP}, sqs J.seq t → x.seq = (t.foldl jadd_ J).seq + 1 → sqs J.seq (t ++ [x])
  | [], J, _, h => ⟨h, trivial⟩
  | y :: t, J, h, h' => ⟨h.1, sqs_app (t := t) (J := jadd_ J y) h.2 h'⟩
theorem blks_app (R : List Rc) (x : Rc) : blks (R ++ [x]) = blks R ++ x.bs := by unfold blks; simp
theorem fold_used : ∀ (R : List Rc) (J : JrP), (R.foldl jadd_ J).used = J.used + (blks R).length
  | [], J => rfl
  | x :: t, J => by
    show (t.foldl jadd_ (jadd_ J x)).used = _
    rw [fold_used t (jadd_ J x)]
    show J.used + x.bs.length + (blks t).length = J.used + (blks (x :: t)).length
    unfold blks
    rw [List.map_cons, List.flatten_cons, List.length_append]; omega
/-- What a device has for good, R its journal's records, C what its blocks come to. -/
structure DR (r : RigP) (J : JrP) (d : Nat) (super : ByteArray) (R : List Rc) (C : Nat → ByteArray) : Prop where
  eq : J = R.foldl jadd_ (jr0 super d J.area (D (startS super d J.area)))
  hd : ∃ b t, R = b :: t ∧ b.l = [] ∧ sqs b.seq t
  ok : ∀ x ∈ R, chkE x.seq x.l = 0
  jb : ∀ i, i < (blks R).length → nw_ r d (1 + 80 * J.area + i) = ((blks R)[i]?).getD ByteArray.empty ∧ sf_ r d (1 + 80 * J.area + i) = ((blks R)[i]?).getD ByteArray.empty
  hm : ∀ j, 161 ≤ j → j < 288 → rpl R (nw_ r d) j = C j ∧ rpl R (sf_ r d) j = C j
section
variable {r r' : RigP} {J : JrP} {d : Nat} {super : ByteArray} {R : List Rc} {C : Nat → ByteArray}
theorem DR.used (h : DR r J d super R C) : J.used = (blks R).length := by
  have e := h.eq
  have : J.used = (R.foldl jadd_ (jr0 super d J.area (D (startS super d J.area)))).used := congrArg JrP.used e
  rw [this, fold_used]; exact Nat.zero_add _
theorem DR.step (h : DR r J d super R C) (hj : ∀ k, 1 + 80 * J.area ≤ k → k < 1 + 80 * J.area + J.used → nw_ r' d k = nw_ r d k ∧ (sf_ r' d k = sf_ r d k ∨ sf_ r' d k = nw_ r d k))
    (hh : ∀ j, 161 ≤ j → j < 288 → (nw_ r' d j = nw_ r d j ∨ nw_ r' d j = C j) ∧ (sf_ r' d j = sf_ r d j ∨ sf_ r' d j = nw_ r d j)) : DR r' J d super R C := by
  have hu := h.used
  refine ⟨h.eq, h.hd, h.ok, fun i hi => ?_, fun j h1 h2 => ?_⟩
  · have k := hj (1 + 80 * J.area + i) (by omega) (by omega)
    have g := h.jb i hi
    refine ⟨k.1.trans g.1, ?_⟩
    rcases k.2 with e | e
    · rw [e]; exact g.2
    · rw [e]; exact g.1
  · have k := hh j h1 h2
    have g := h.hm j h1 h2
    refine ⟨?_, ?_⟩
    · rcases k.1 with e | e
      · rw [rpl_pt R e]; exact g.1
      · exact rpl_fix R g.1 e
    · rcases k.2 with e | e
      · rw [rpl_pt R e]; exact g.2
      · rw [rpl_pt R (C' := nw_ r d) e]; exact g.1
theorem DR.same (h : DR r J d super R C) (hn : ∀ k, nw_ r' d k = nw_ r d k) (hs : ∀ k, sf_ r' d k = sf_ r d k) : DR r' J d super R C :=
  h.step (fun k _ _ => ⟨hn k, .inl (hs k)⟩) fun j _ _ => ⟨.inl (hn j), .inl (hs j)⟩
theorem DR.fl (h : DR r J d super R C) (hd : d ≤ 1) {d' : Int} (hd' : d' = 0 ∨ d' = 1) : DR (flF r d') J d super R C := by
  have hn := fun k => nw_fl r d' (d : Int) k hd' (by omega)
  have hs : ∀ k, sf_ (flF r d') d k = sf_ r d k ∨ sf_ (flF r d') d k = nw_ r d k := fun k => by
    rw [sf_fl r d' (d : Int) k hd' (by omega)]
    by_cases e : (d : Int) = d'
    · rw [if_pos e]; exact .inr rfl
    · rw [if_neg e]; exact .inl rfl
  exact h.step (fun k _ _ => ⟨hn k, hs k⟩) fun j _ _ => ⟨.inl (hn j), hs j⟩
theorem DR.sr (h : DR r J d super R C) (s : ByteArray) : DR (srF r s) J d super R C := h.same (fun _ => rfl) fun _ => rfl
theorem DR.wrO (h : DR r J d super R C) (hd : d ≤ 1) {d' : Int} (hd' : d' = 0 ∨ d' = 1) (hne : (d : Int) ≠ d') (l : List ByteArray) (i : Nat) : DR (wrN r d' i l) J d super R C :=
  h.same (fun k => by rw [nw_wrN hd' (by omega) k l i r, if_neg (fun g => hne g.1)]) fun k => sf_wrN hd' (by omega) k l i r
theorem DR.wr (h : DR r J d super R C) (hd : d ≤ 1) {d' : Int} (hd' : d' = 0 ∨ d' = 1) {l : List ByteArray} {i : Nat} (hi : i + l.length ≤ 161) (ho : (d : Int) = d' → i + l.length ≤ 1 + 80 * J.area ∨ 1 + 80 * J.area + J.used ≤ i) : DR (wrN r d' i l) J d super R C := by
  refine h.step (fun k h1 h2 => ⟨?_, .inl (sf_wrN hd' (by omega) k l i r)⟩) fun j h1 h2 => ⟨.inl ?_, .inl (sf_wrN hd' (by omega) j l i r)⟩
  · rw [nw_wrN hd' (by omega) k l i r, if_neg (fun g => by have := ho g.1; omega)]
  · rw [nw_wrN hd' (by omega) j l i r, if_neg (by omega)]
theorem DR.hmS (h : DR r J d super R C) (hd : d ≤ 1) {d' : Int} (hd' : d' = 0 ∨ d' = 1) {l : List (Int × ByteArray)} (hl : ∀ p ∈ l, 161 ≤ p.1) (hc : (d : Int) = d' → ∀ p ∈ l, ∀ j : Nat, p.1 = j → p.2 = C j) (hu : J.used ≤ 80) (ha : J.area ≤ 1) : DR (wrK r d' l) J d super R C := by
  refine h.step (fun k h1 h2 => ⟨?_, .inl (sf_wrK hd' (by omega) k l r)⟩) fun j h1 h2 => ⟨?_, .inl (sf_wrK hd' (by omega) j l r)⟩
  · rcases nw_wrK hd' (d' := (d : Int)) (by omega) k l r hl with e | ⟨_, p, hp, e, _⟩
    · exact e
    · have := hl p hp; omega
  · rcases nw_wrK hd' (d' := (d : Int)) (by omega) j l r hl with e | ⟨e0, p, hp, e, e2⟩
    · exact .inl e
    · exact .inr (e2.trans (hc e0 p hp j e))
/-- One more record. -/
theorem DR.app (h : DR r J d super R C) {x : Rc} (hx : chkE x.seq x.l = 0) (hs : x.seq = J.seq + 1) (hp : ∀ i, i < x.bs.length → nw_ r d (1 + 80 * J.area + J.used + i) = (x.bs[i]?).getD ByteArray.empty ∧ sf_ r d (1 + 80 * J.area + J.used + i) = (x.bs[i]?).getD ByteArray.empty) :
    DR r (jadd_ J x) d super (R ++ [x]) (ovl x.l C) := by
  obtain ⟨b, t, e1, e2, e3⟩ := h.hd
  have hu := h.used
  refine ⟨?_, ⟨b, t ++ [x], by rw [e1]; rfl, e2, ?_⟩, fun y hy => ?_, fun i hi => ?_, fun j h1 h2 => ?_⟩
  · show jadd_ J x = (R ++ [x]).foldl jadd_ (jr0 super d J.area (D (startS super d J.area)))
    rw [List.foldl_append, ← h.eq]; rfl
  · have hj : J = t.foldl jadd_ (jadd_ (jr0 super d J.area (D (startS super d J.area))) b) := by
      have := h.eq; rw [e1] at this; exact this
    have := sqs_app (x := x) (t := t) (J := jadd_ (jr0 super d J.area (D (startS super d J.area))) b) e3 (by rw [← hj]; exact hs)
    exact this
  · rcases List.mem_append.1 hy with g | g
    · exact h.ok y g
    · rw [List.mem_singleton.1 g]; exact hx
  · show nw_ r d (1 + 80 * J.area + i) = _ ∧ sf_ r d (1 + 80 * J.area + i) = _
    rw [blks_app] at hi ⊢
    rw [List.length_append] at hi
    by_cases hi' : i < (blks R).length
    · rw [List.getElem?_append_left hi']; exact h.jb i hi'
    · rw [List.getElem?_append_right (by omega)]
      have := hp (i - (blks R).length) (by omega)
      rw [show 1 + 80 * J.area + J.used + (i - (blks R).length) = 1 + 80 * J.area + i by omega] at this
      exact this
  · have g := h.hm j h1 h2
    rw [rpl_app, rpl_app]
    unfold ovl
    rw [g.1, g.2]
    exact ⟨rfl, rfl⟩
/-- Blocks laid behind a journal's records, and flushed. -/
theorem DR.appF (h : DR r J d super R C) (hd : d ≤ 1) {x : Rc} (hx : chkE x.seq x.l = 0) (hs : x.seq = J.seq + 1) (hp : ∀ i, i < x.bs.length → nw_ r d (1 + 80 * J.area + J.used + i) = (x.bs[i]?).getD ByteArray.empty) : DR (flF r d) (jadd_ J x) d super (R ++ [x]) (ovl x.l C) := by
  refine (h.fl hd (d' := d) (by omega)).app hx hs fun i hi => ?_
  rw [nw_fl r d d _ (by omega) (by omega), sf_fl r d d _ (by omega) (by omega), if_pos rfl]
  exact ⟨hp i hi, hp i hi⟩
/-- A journal begun. -/
theorem dr_beg {area : Nat} {seq : Int} {root : Dg} (hq : seqOk seq) (hb : nw_ r d (1 + 80 * area) = recB seq root ∧ sf_ r d (1 + 80 * area) = recB seq root) (hh : ∀ j, 161 ≤ j → j < 288 → nw_ r d j = C j ∧ sf_ r d j = C j) : DR r (begJ super d area seq root) d super [⟨seq, root, []⟩] C := by
  have e : recLs seq root [] = [recB seq root] := rfl
  have e2 : blks [⟨seq, root, []⟩] = [recB seq root] := by
    show (recLs seq root [] ++ [] : List ByteArray) = _
    rw [List.append_nil]; exact e
  have e3 : begJ super d area seq root = jadd_ (jr0 super d area (D (startS super d area))) ⟨seq, root, []⟩ := by
    show addJs _ seq root [recB seq root] = addJs _ seq root (recLs seq root [])
    rw [e]
  refine ⟨e3, ⟨_, [], rfl, rfl, trivial⟩, fun x hx => ?_, fun i hi => ?_, fun j h1 h2 => hh j h1 h2⟩
  · rw [List.mem_singleton.1 hx]
    show chkE seq [] = 0
    unfold chkE
    rw [if_neg (by simp), if_neg (fun hn => hn hq), if_pos (chk_nil 160)]
  · rw [e2] at hi ⊢
    have : i = 0 := by simp only [List.length_singleton] at hi; omega
    subst this
    exact hb
end
theorem ovl_srt {l : List (Int × ByteArray)} (hn : (l.map (·.1)).Nodup) (C : Nat → ByteArray) : ovl (srt l) C = ovl l C := by
  funext j
  unfold ovl
  rw [getS_perm (srt_perm l) (((srt_perm l).map (·.1)).nodup_iff.2 hn) j]
theorem ovl_in {l : List (Int × ByteArray)} (hn : (l.map (·.1)).Nodup) (C : Nat → ByteArray) {p : Int × ByteArray} (hp : p ∈ l) {j : Nat} (hj : p.1 = j) : p.2 = ovl l C j := by
  unfold ovl
  rw [← hj, (getS_mem hn (k := p.1) (s := p.2)).2 hp]
  rfl
/-- The first block. -/
structure SP (r : RigP) (super : ByteArray) : Prop where
  n : nw_ r 0 0 = super
  s : sf_ r 0 0 = super
  n1 : (nw_ r 1 0).size = 64
  s1 : (sf_ r 1 0).size = 64
section
variable {r : RigP} {super : ByteArray}
theorem SP.fl (h : SP r super) {d : Int} (hd : d = 0 ∨ d = 1) : SP (flF r d) super := by
  refine ⟨(nw_fl r d 0 0 hd (.inl rfl)).trans h.n, ?_, by rw [nw_fl r d 1 0 hd (.inr rfl)]; exact h.n1, ?_⟩
  · rw [sf_fl r d 0 0 hd (.inl rfl)]
    split
    · exact h.n
    · exact h.s
  · rw [sf_fl r d 1 0 hd (.inr rfl)]
    split
    · exact h.n1
    · exact h.s1
theorem SP.sr (h : SP r super) (s : ByteArray) : SP (srF r s) super := ⟨h.n, h.s, h.n1, h.s1⟩
theorem SP.wr (h : SP r super) {d : Int} (hd : d = 0 ∨ d = 1) {i : Nat} (hi : 1 ≤ i) (l : List ByteArray) : SP (wrN r d i l) super :=
  ⟨by rw [nw_wrN hd (.inl rfl) 0 l i r, if_neg (by omega)]; exact h.n, (sf_wrN hd (.inl rfl) 0 l i r).trans h.s, by rw [nw_wrN hd (.inr rfl) 0 l i r, if_neg (by omega)]; exact h.n1, by rw [sf_wrN hd (.inr rfl) 0 l i r]; exact h.s1⟩
theorem SP.hm (h : SP r super) {d : Int} (hd : d = 0 ∨ d = 1) {l : List (Int × ByteArray)} (hl : ∀ p ∈ l, 161 ≤ p.1) : SP (wrK r d l) super := by
  refine ⟨?_, (sf_wrK hd (.inl rfl) 0 l r).trans h.s, ?_, by rw [sf_wrK hd (.inr rfl) 0 l r]; exact h.s1⟩
  · rcases nw_wrK hd (d' := 0) (.inl rfl) 0 l r hl with e | ⟨_, p, hp, e, _⟩
    · exact e.trans h.n
    · have := hl p hp; omega
  · rcases nw_wrK hd (d' := 1) (.inr rfl) 0 l r hl with e | ⟨_, p, hp, e, _⟩
    · rw [e]; exact h.n1
    · have := hl p hp; omega
end
end Go.Proofs.YtkjamonkohpcnaaGreat.Cmt
