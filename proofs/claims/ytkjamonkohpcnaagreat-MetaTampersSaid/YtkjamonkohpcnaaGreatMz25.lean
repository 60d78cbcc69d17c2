/- A vault on a store on a fine rig: its calls, with what holds through commits. -/
import Derived.Test.YtkjamonkohpcnaaGreatMz24
import Derived.Test.YtkjamonkohpcnaaGreatMz5
import Derived.Test.YtkjamonkohpcnaaGreatProg
import Derived.Test.YtkjamonkohpcnaaGreatMz12
import Derived.Test.YtkjamonkohpcnaaGreatMz13
import Derived.KernelRfl
namespace Go.Proofs.YtkjamonkohpcnaaGreat.Cmt
open Go Ev Sha Aes Orc Node Rec Chn Jrn Cau Sto Srt Stg Wld Bgn Ivs Ctr Aut
open Rig (Fnc_takeR RigP Rg rgM z64 app_of RigA)
open Tree (TreP TreA Tre treM TI Same getT_ok putT_ok GetI PutI updB getT putT)
set_option linter.unusedVariables false
set_option linter.unusedSimpArgs false
set_option maxRecDepth 100000
section
variable {a : RigA} {A : StoA} {B : VA} {on : Nat} {S : Sy} {f0 f1 : Nat → ByteArray} {m b : Nat} {N : Int}
theorem w_plainJ (h : WJ a A on S f0 f1 m b N) {d : Int} {l : Nat} {s : ByteArray} (hd : d = 0 ∨ d = 1) (hl : l < 64) (hs48 : s.size = 48) (hm : m ≤ 57) (hb : b ≤ 1099511610000) :
    Fnc Tryz.prog 20 [pt B.vn, .int .i64 d, .int .i64 l, .string s] (syM a A B S)
      (AQ a A B (fun S' => WJ a A on S' (up0 f0 d l (layB 0 2 s)) (up1 f1 d l (layB 0 2 s)) (m + 7) (b + 13) N ∧ S'.v = S.v ∧ Sm S.V S'.V) (.int .i64 0)) := by
  obtain ⟨r, o, V, v⟩ := S
  have hp := put h.wi hd hl (layB_size num0 2 hs48) hm
  have hs := plain_ a r o A V B v d l s (h.wi.can hb) hs48
  have hsm := sm_put (r := r) (ts := o.ts) (V := V) hd hl (layB_size num0 2 hs48) (wi_sh h.wi hd hm)
  have hj := fun (o' : Orc) (k1 : o'.on = on) (k2 : o'.ts = (putO r o.ts V d l (layB 0 2 s)).ts) => wj_put h hd hl (layB_size num0 2 hs48) hm k1 k2
  obtain ⟨q, eq⟩ : ∃ q, q = putO r o.ts V d l (layB 0 2 s) := ⟨_, rfl⟩
  have eq' : putO r o.ts V d l (layB 0 2 s) = q := eq.symm
  rw [show (⟨r, o, V, v⟩ : Sy).r = r from rfl, show (⟨r, o, V, v⟩ : Sy).o = o from rfl, show (⟨r, o, V, v⟩ : Sy).V = V from rfl, eq'] at hp
  rw [eq'] at hsm
  dsimp only at hj
  rw [eq'] at hj
  rw [eq', hp.e] at hs
  rw [sy_2]
  refine Fnc_mono (Fnc_more hs) ?_
  rintro e M ⟨A', h1, o', h2, h3, h4, h5⟩
  subst h4; subst h1
  exact ⟨⟨q.r, o', q.V.fl 0, v⟩, ⟨hj o' (h2.trans h.wi.on) h3, rfl, sm_fl hsm 0⟩, h5, (sy_2 _ _ _ _ _ _ _).symm⟩
theorem w_readJ (h : WJ a A on S f0 f1 m b N) (hf : FB f0 ∧ FB f1) {d : Int} {l : Nat} (hd : d = 0 ∨ d = 1) (hl : l < 64) (hb : b ≤ 1099511610000) :
    Fnc Tryz.prog 32 [pt B.vn, .int .i64 d, .int .i64 l] (syM a A B S)
      (AQ a A B (fun S' => WJ a A on S' f0 f1 m (b + 7) N ∧ S'.v = S.v ∧ Sm S.V S'.V) (.tuple #[.string (dat S.v.k (fs f0 f1 d l)), .int .i64 0])) := by
  obtain ⟨r, o, V, v⟩ := S
  have hp := got h.wi hd hl
  have hsm := sm_get (r := r) (ts := o.ts) (V := V) hd hl
  have hj := fun (o' : Orc) (k1 : o'.on = on) (k2 : o'.ts = (getO r o.ts V d l).ts) => wj_get h hd hl k1 k2
  obtain ⟨q, eq⟩ : ∃ q, q = getO r o.ts V d l := ⟨_, rfl⟩
  have eq' : getO r o.ts V d l = q := eq.symm
  rw [show (⟨r, o, V, v⟩ : Sy).r = r from rfl, show (⟨r, o, V, v⟩ : Sy).o = o from rfl, show (⟨r, o, V, v⟩ : Sy).V = V from rfl, eq'] at hp
  rw [eq'] at hsm
  dsimp only at hj
  rw [eq'] at hj
  have hs := readv a r o A V B v d l (h.wi.can hb) h.wi.key q eq (fun _ hi => by
    rw [hp.s hi]
    rcases (FB.fs hf.1 hf.2 d) l hl with h1 | h1
    · exact absurd h1 (hp.is.1 hi)
    · exact h1)
  have hv : readS v.k q = dat v.k (fs f0 f1 d l) := by
    unfold readS dat
    rw [if_neg (by simp [hp.e])]
    by_cases hz : fs f0 f1 d l = z64
    · rw [if_pos hz]
      have : q.is = false := by
        cases hi : q.is with
        | false => rfl
        | true => exact absurd hz (hp.is.1 hi)
      rw [if_pos this]
    · rw [if_neg hz]
      have hi := hp.is.2 hz
      rw [if_neg (by simp [hi]), hp.s hi]
  rw [hv, hp.e] at hs
  rw [sy_3]
  refine Fnc_mono (Fnc_more hs) ?_
  rintro e M ⟨A', h1, o', h2, h3, h4, h5⟩
  subst h4; subst h1
  exact ⟨⟨q.r, o', q.V.fl 0, v⟩, ⟨hj o' (h2.trans h.wi.on) h3, rfl, sm_fl hsm 0⟩, h5, (sy_3 _ _ _ _ _ _ _).symm⟩
end
end Go.Proofs.YtkjamonkohpcnaaGreat.Cmt
/- A vault on a store made anew: what holds through commits. -/
namespace Go.Proofs.YtkjamonkohpcnaaGreat.Cmt
open Go Ev Sha Aes Orc Node Rec Chn Jrn Cau Sto Srt Stg Wld Bgn Ivs Ctr Aut
open Rig (Fnc_takeR RigP Rg rgM z64 app_of RigA)
open Tree (TreP TreA Tre treM TI Same getT_ok putT_ok GetI PutI updB getT putT getS)
set_option linter.unusedVariables false
set_option linter.unusedSimpArgs false
set_option maxRecDepth 100000
theorem frJ_ji (super : ByteArray) {d : Nat} (N : Int) (hN : 0 ≤ N) : JI (frJ super d 0) d super N := by
  unfold frJ
  exact ⟨rfl, Nat.zero_le _, ⟨Nat.le_refl 1, by show 1 ≤ 80; omega⟩, ⟨Int.le_refl 0, hN⟩, rfl⟩
theorem si_bare {r : RigP} {d : Int} (h : ∀ j, 161 ≤ j → j < 288 → nw_ r d j = if j < 224 then (Node.bare (high (j - 161))).1 else (Node.bare 0).1) : SI r ⟨d, (Node.bare 6).2, [], []⟩ bF := by
  refine ⟨⟨List.nodup_nil, fun p hp => by cases hp⟩, fun n s _ hg => (by cases hg), fun n hn _ => ?_⟩
  have := h (161 + n) (by omega) (by omega)
  rw [if_pos (by omega), Nat.add_sub_cancel_left] at this
  exact this
theorem wj_new {a : RigA} {A : StoA} {on : Nat} {r : RigP} {o : Orc} {V : StoV} {super : ByteArray} {g0 g1 g2 : Int} {k : Nat → Int} (hf : Fine r) (hok : SOk ⟨A, V⟩ a.rn on) (hV : V = fmV0 a.rn on g0 g1 g2 super) (ho : o.on = on) (hg : 1 ≤ g2 ∧ g2 ≤ 1099511627776) (hk : ∀ i, by8 (k i)) (hs : super.size = 64) :
    WJ a A on ⟨fmR r super, o, V, ⟨k, ⟨0, 0, g2⟩, 0⟩⟩ (fun _ => z64) (fun _ => z64) 0 o.ts.length 0 := by
  have hw := wi_new (k := k) hf hok hV ho hg hk
  subst hV
  refine ⟨hw, ⟨bF, ti_bare (.inl rfl) (fm_nw r super (.inl rfl)), si_bare (fm_nw r super (.inl rfl))⟩, ⟨bF, ti_bare (.inr rfl) (fm_nw r super (.inr rfl)), si_bare (fm_nw r super (.inr rfl))⟩, frJ_ji super 0 (Int.le_refl 0), frJ_ji super 0 (Int.le_refl 0), ?_, fmV_ok super, hs⟩
  show RJ (fmV super) (frJ super 0 0) (frJ super 1 0)
  exact ⟨rfl, rfl, rfl, rfl, rfl, rfl⟩
end Go.Proofs.YtkjamonkohpcnaaGreat.Cmt
/- Tables of slots: the plain model. -/
namespace Go.Proofs.YtkjamonkohpcnaaGreat.Slots
open Go Ev
set_option linter.unusedVariables false
set_option linter.unusedSimpArgs false
set_option maxRecDepth 100000
/-- A slot. -/
structure Sl10 where
  g : Int
  v : Nat → Bool
  d : Nat → Bool
  lv : Int
abbrev sc (x : Sl10) : List Value := [.int .i64 x.g, .bool (x.v 0), .bool (x.v 1), .bool (x.v 2), .bool (x.v 3), .bool (x.d 0), .bool (x.d 1), .bool (x.d 2), .bool (x.d 3), .int .i64 x.lv]
def freeS : Sl10 := ⟨-1, fun _ => false, fun _ => false, 0⟩
def zeroS : Sl10 := ⟨0, fun _ => false, fun _ => false, 0⟩
theorem sc_len (x : Sl10) : (sc x).length = 10 := rfl
/-- So many slots, one behind another. -/
def rl (n : Nat) (s : Nat → Sl10) : List Value := ((List.range n).map fun i => sc (s i)).flatten
theorem rl_lens (n : Nat) (s : Nat → Sl10) : ∀ x ∈ (List.range n).map (fun i => sc (s i)), x.length = 10 := by
  intro x hx; obtain ⟨i, _, rfl⟩ := List.mem_map.1 hx; rfl
theorem rl_len (n : Nat) (s : Nat → Sl10) : (rl n s).length = n * 10 := by
  unfold rl
  rw [List.length_flatten]
  have : (((List.range n).map (fun i => sc (s i))).map List.length) = List.replicate n 10 := by
    apply List.ext_getElem?
    intro i
    by_cases h : i < n
    · simp [h]
    · simp [h]
  rw [this]
  simp
theorem rl_get {n i k : Nat} {s : Nat → Sl10} (hi : i < n) (hk : k < 10) : (rl n s)[i * 10 + k]? = (sc (s i))[k]? :=
  flat_get (rl_lens n s) (by rw [List.getElem?_map, List.getElem?_range hi]; rfl) hk
theorem rl_part {n i : Nat} {s : Nat → Sl10} (hi : i < n) : ((rl n s).drop (i * 10)).take 10 = sc (s i) := by
  apply List.ext_getElem?
  intro k
  by_cases hk : k < 10
  · rw [List.getElem?_take, if_pos hk, List.getElem?_drop, rl_get hi hk]
  · rw [List.getElem?_take, if_neg hk, List.getElem?_eq_none (by rw [sc_len]; omega)]
theorem rl_succ (n : Nat) (s : Nat → Sl10) : rl (n + 1) s = rl n s ++ sc (s n) := by
  unfold rl; rw [List.range_succ]; simp
def upd (s : Nat → Sl10) (i : Nat) (x : Sl10) : Nat → Sl10 := fun j => if j = i then x else s j
theorem rl_set {n i : Nat} {s : Nat → Sl10} {x : Sl10} (hi : i < n) : (rl n s).take (i * 10) ++ sc x ++ (rl n s).drop (i * 10 + 10) = rl n (upd s i x) := by
  apply List.ext_getElem?
  intro k
  have hl := rl_len n s
  have hd := Nat.div_add_mod k 10
  have hm := Nat.mod_lt k (show 0 < 10 by omega)
  have ek : k = k / 10 * 10 + k % 10 := by omega
  have hin : i * 10 + 10 ≤ n * 10 := by omega
  by_cases h1 : k < i * 10
  · rw [List.append_assoc, List.getElem?_append_left (by rw [List.length_take]; omega), List.getElem?_take, if_pos h1, ek, rl_get (by omega) hm, rl_get (by omega) hm]
    unfold upd; rw [if_neg (by omega)]
  · by_cases h2 : k < i * 10 + 10
    · rw [List.append_assoc, List.getElem?_append_right (by rw [List.length_take]; omega), List.length_take, Nat.min_eq_left (by omega), List.getElem?_append_left (by rw [sc_len]; omega)]
      have e : k / 10 = i := by omega
      conv => rhs; rw [ek, e, rl_get hi hm]
      unfold upd; rw [if_pos rfl]
      congr 1; omega
    · rw [List.append_assoc, List.getElem?_append_right (by rw [List.length_take]; omega), List.length_take, Nat.min_eq_left (by omega), List.getElem?_append_right (by rw [sc_len]; omega), List.getElem?_drop]
      rw [show i * 10 + 10 + (k - i * 10 - (sc x).length) = k by rw [sc_len]; omega]
      by_cases h3 : k / 10 < n
      · rw [ek, rl_get h3 hm, rl_get h3 hm]
        unfold upd; rw [if_neg (by omega)]
      · rw [List.getElem?_eq_none (by rw [rl_len]; omega), List.getElem?_eq_none (by rw [rl_len]; omega)]
/-- A table's cells. -/
def tc (n : Int) (s : Nat → Sl10) : List Value := .int .i64 n :: rl 8 s
theorem tc_len (n : Int) (s : Nat → Sl10) : (tc n s).length = 81 := by unfold tc; rw [List.length_cons, rl_len]
theorem tc_0 (n : Int) (s : Nat → Sl10) : (tc n s)[0]? = some (.int .i64 n) := rfl
theorem tc_get {n : Int} {i k : Nat} {s : Nat → Sl10} (hi : i < 8) (hk : k < 10) : (tc n s)[1 + i * 10 + k]? = (sc (s i))[k]? := by
  unfold tc
  rw [show 1 + i * 10 + k = (i * 10 + k) + 1 by omega, List.getElem?_cons_succ, rl_get hi hk]
theorem tc_all (n : Int) (s : Nat → Sl10) : ((tc n s).drop 1).take 80 = rl 8 s := by
  unfold tc
  rw [List.drop_succ_cons, List.drop_zero, List.take_of_length_le (by rw [rl_len]; omega)]
theorem tc_set {n : Int} {i : Nat} {s : Nat → Sl10} {x : Sl10} (hi : i < 8) : (tc n s).take (1 + i * 10) ++ sc x ++ (tc n s).drop (1 + i * 10 + 10) = tc n (upd s i x) := by
  unfold tc
  rw [show 1 + i * 10 = i * 10 + 1 by omega, List.take_succ_cons, show i * 10 + 1 + 10 = (i * 10 + 10) + 1 by omega, List.drop_succ_cons, List.cons_append, List.cons_append, rl_set hi]
/-- One cell of a slot changed. -/
theorem tc_set1 {n : Int} {i k : Nat} {s : Nat → Sl10} {x : Sl10} {u : Value} (hi : i < 8) (hk : k < 10) (hx : (sc (s i)).set k u = sc x) : (tc n s).set (1 + i * 10 + k) u = tc n (upd s i x) := by
  rw [← tc_set hi, ← hx]
  apply List.ext_getElem?
  intro j
  rw [List.getElem?_set]
  have hl := tc_len n s
  have hxl : ((sc (s i)).set k u).length = 10 := by rw [List.length_set, sc_len]
  by_cases h0 : 1 + i * 10 + k = j
  · rw [if_pos h0, if_pos (by omega), List.append_assoc, List.getElem?_append_right (by rw [List.length_take]; omega), List.length_take, Nat.min_eq_left (by omega), List.getElem?_append_left (by omega), List.getElem?_set, if_pos (by omega), if_pos (by rw [sc_len]; omega)]
  · rw [if_neg h0]
    by_cases h1 : j < 1 + i * 10
    · rw [List.append_assoc, List.getElem?_append_left (by rw [List.length_take]; omega), List.getElem?_take, if_pos h1]
    · by_cases h2 : j < 1 + i * 10 + 10
      · rw [List.append_assoc, List.getElem?_append_right (by rw [List.length_take]; omega), List.length_take, Nat.min_eq_left (by omega), List.getElem?_append_left (by omega), List.getElem?_set, if_neg (by omega)]
        rw [← tc_get (n := n) hi (by omega)]
        congr 1; omega
      · rw [List.append_assoc, List.getElem?_append_right (by rw [List.length_take]; omega), List.length_take, Nat.min_eq_left (by omega), List.getElem?_append_right (by omega), List.getElem?_drop]
        congr 1; omega
end Go.Proofs.YtkjamonkohpcnaaGreat.Slots
/- Tables of slots: a nil one; what must come at any rate. -/
namespace Go.Proofs.YtkjamonkohpcnaaGreat.Slots
open Go Ev Be
set_option linter.unusedVariables false
set_option linter.unusedSimpArgs false
set_option maxRecDepth 100000
abbrev slF : List Value := [.int .i64 (-1), .bool false, .bool false, .bool false, .bool false, .bool false, .bool false, .bool false, .bool false, .int .i64 0]
abbrev slZ : List Value := [.int .i64 0, .bool false, .bool false, .bool false, .bool false, .bool false, .bool false, .bool false, .bool false, .int .i64 0]
attribute [local irreducible] convert Builtin.copy_ Builtin.append_ Instr.makeSlice
theorem free : Fnc Tryz.prog 141 [] [] (Ret (.agg slF.toArray) []) := by
  refine fn_intro Tryz.func141 (by kernel_rfl) ?_
  repeat' ((conv => whnf); first
      | refine ldN_lit ?_
      | refine nw (fun n => ?_)
      | refine bld ?_
      | refine st_lit rfl ?_
      | refine need (by first | rfl | omega) ?_
      | refine fin_nil ⟨?_, rfl⟩)
  all_goals rfl
end Go.Proofs.YtkjamonkohpcnaaGreat.Slots
/- Tables of slots: how many are dirty, and used; bits; bytes. -/
namespace Go.Proofs.YtkjamonkohpcnaaGreat.Slots
open Go Ev Be
set_option linter.unusedVariables false
set_option linter.unusedSimpArgs false
set_option maxRecDepth 100000
theorem k4 : kindsOf Tryz.prog 3 64 = some [.bool, .bool, .bool, .bool] := by kernel_rfl
theorem f4 (a b c d : Bool) : Fits [.bool, .bool, .bool, .bool] [.bool a, .bool b, .bool c, .bool d] := ⟨⟨_, rfl⟩, ⟨_, rfl⟩, ⟨_, rfl⟩, ⟨_, rfl⟩, trivial⟩
theorem kSl : kindsOf Tryz.prog 4 66 = some ([.int .i64] ++ List.replicate 8 .bool ++ [.int .i64]) := by kernel_rfl
attribute [local irreducible] convert Builtin.copy_ Builtin.append_ Instr.makeSlice
end Go.Proofs.YtkjamonkohpcnaaGreat.Slots
/- Tables of slots: bytes; what must come at any rate; the law of nil tables. -/
namespace Go.Proofs.YtkjamonkohpcnaaGreat.Slots
open Go Ev Be
set_option linter.unusedVariables false
set_option linter.unusedSimpArgs false
set_option maxRecDepth 100000
instance (priority := low) ZipO_nil {M : List Blk} {e : TypeId} {xs : List Value} : ZipO M .nil e xs (fun l => l ++ M) := ⟨⟨[], M, rfl, fun _ => rfl⟩⟩
instance Own_look {g cap : Nat} {junk xs : List Value} {e : TypeId} : Look ((Own.at_ g cap junk).blk e xs) g (.row (xs ++ junk) e) := ⟨List.mem_cons_self⟩
theorem fldN {n off m : Nat} {cs : List Value} {t : TypeId} {k : List Value → Prop} {RO : List Blk} [h : Look RO n (.cells cs t)] (hk : dropK cs off fun l => takeK l m k) : FLdN RO n off m k := by
  obtain ⟨h1, h2⟩ := dropK_out hk
  obtain ⟨h3, h4⟩ := takeK_out h1
  refine ⟨_, by rw [List.length_take]; omega, fun w hm j v hj => ?_, h3⟩
  have := hm.1 _ h.mem
  simp only [Blk.holds] at this
  rw [List.getElem?_take] at hj
  split at hj
  · rw [List.getElem?_drop] at hj
    simp [World.cell?, this, hj]
  · cases hj
theorem call_rowro {P : Program} {M : List Blk} {k : Kv} {pan : Kp} {f : FuncId} {args : List Value} {n : Nat} {cs xs : List Value} {t : TypeId} {N' : List Blk} {v : Value} (h : Fnc P f args [⟨n, .ro 0 xs⟩] (Ret v N')) [hl : Look M n (.row cs t)] (hx : ∃ junk, cs = xs ++ junk) (hk : k v M) : Cl P f args M k pan := by
  obtain ⟨junk, rfl⟩ := hx
  refine call_ro h (by simp [Blk.ro]) (fun A w0 w st => ⟨?_, List.pairwise_singleton _ _⟩) hk
  intro b hb
  simp only [List.mem_singleton] at hb
  subst hb
  have := st.has _ hl.mem
  refine ⟨this.lt, fun j v hj => ?_⟩
  simp only [Blk.holds] at this
  have h2 : (xs ++ junk)[j]? = some v := by rw [List.getElem?_append_left (List.getElem?_eq_some_iff.1 hj).1]; exact hj
  simpa [World.cell?, this] using h2
theorem fin_look (n : Nat) {M : List Blk} {o : BO} {Q : List Blk → Prop} [h : Look M n o] (hq : Q [⟨n, o⟩]) : Ev.Fin M Q := by
  obtain ⟨s, t, e⟩ := List.append_of_mem h.mem
  exact ⟨⟨[⟨n, o⟩], s ++ t, by rw [e]; exact List.perm_middle, hq⟩⟩
abbrev L32 : List Int := [6, 34, 0, 0, 0, 0, 0, 0, 0, 0, 0, 0, 0, 0, 0, 0, 0, 0, 0, 0, 0, 0, 0, 0, 0, 0, 0, 0, 0, 0, 0, 0]
def sB : ByteArray := str ([6, 34] ++ List.replicate 46 0)
theorem rowL : rowE 1 L32 = 0 ∧ rowS 1 L32 = str ([6, 34] ++ List.replicate 30 0) := ⟨by decide +kernel, by decide +kernel⟩
theorem one4 {a b c d : Value} (h1 : a.oneCell' = true) (h2 : b.oneCell' = true) (h3 : c.oneCell' = true) (h4 : d.oneCell' = true) : ∀ u ∈ [a, b, c, d], u.oneCell' = true := by
  intro u hu
  simp only [List.mem_cons, List.not_mem_nil, or_false] at hu
  rcases hu with rfl | rfl | rfl | rfl <;> assumption
attribute [local irreducible] convert Builtin.copy_ Builtin.append_ Instr.makeSlice rowE rowS padE padS full sB
end Go.Proofs.YtkjamonkohpcnaaGreat.Slots
/- Tables of slots: the methods. -/
namespace Go.Proofs.YtkjamonkohpcnaaGreat.Slots
open Go Ev Be
set_option linter.unusedVariables false
set_option linter.unusedSimpArgs false
set_option maxRecDepth 100000
/-- The first of n that p holds of (n: none). -/
def IsF (p : Nat → Prop) (n k : Nat) : Prop := k ≤ n ∧ (∀ j, j < k → ¬ p j) ∧ (k < n → p k)
theorem isF_ex (p : Nat → Prop) (n : Nat) : ∃ k, IsF p n k := by
  induction n with
  | zero => exact ⟨0, Nat.le_refl _, fun j hj => absurd hj (by omega), fun h => absurd h (by omega)⟩
  | succ n ih =>
    obtain ⟨k, h1, h2, h3⟩ := ih
    by_cases hk : k < n
    · exact ⟨k, by omega, h2, fun _ => h3 hk⟩
    · have : k = n := by omega
      subst this
      by_cases hp : p k
      · exact ⟨k, by omega, h2, fun _ => hp⟩
      · refine ⟨k + 1, by omega, fun j hj => ?_, fun h => absurd h (by omega)⟩
        by_cases hjk : j = k
        · subst hjk; exact hp
        · exact h2 j (by omega)
theorem isF_eq {p : Nat → Prop} {n k i : Nat} (h : IsF p n k) (hi : i ≤ k) (hin : i < n) (hp : p i) : k = i := by
  by_cases hk : i < k
  · exact absurd hp (h.2.1 i hk)
  · omega
theorem isF_ne {p : Nat → Prop} {n k i : Nat} (h : IsF p n k) (hi : i ≤ k) (hin : i < n) (hp : ¬ p i) : i + 1 ≤ k := by
  by_cases hk : i = k
  · subst hk; exact absurd (h.2.2 hin) hp
  · omega
abbrev tB (r : Nat) (n : Int) (s : Nat → Sl10) : Blk := ⟨r, .row (tc n s) 135⟩
attribute [local irreducible] rl tc convert Builtin.copy_ Builtin.append_ Instr.makeSlice
theorem find (r : Nat) (n g : Int) (s : Nat → Sl10) (k : Nat) (hg : 0 ≤ g) (hk : IsF (fun j => (s j).g = g) 8 k) :
    Fnc Tryz.prog 111 [pt r, .int .i64 g] [tB r n s] (Ret (if k < 8 then .tuple #[.int .i64 k, .bool true] else .tuple #[.int .i64 0, .bool false]) [tB r n s]) := by
  have hk8 := hk.1
  refine fn_intro Tryz.func111 (by kernel_rfl) ?_
  repeat' ((conv => whnf); first
      | refine ldN_row (rl 8 s) (by rw [rl_len]; exact tc_all n s) (rl_len 8 s) ?_
      | refine loop_rule [18] (fun vs M m => ∃ i : Nat, vs = [.int .i64 i] ∧ i ≤ k ∧ m = 8 - i ∧ M = [tB r n s]) rfl ?_ ?_
      | (refine ifs (fun h => ?_) (fun h => ?_) <;> (try (exfalso; first | omega | with_reducible contradiction | with_reducible exact h rfl))))
  · exact fin_all ⟨_, 0, rfl, by omega, rfl, rfl⟩
  rintro vs junk M' m ⟨i, rfl, hi, rfl, rfl⟩
  repeat' ((conv => whnf); first
      | (refine nv (fun z hz => ?_); (try simp at hz); replace hz := hz.symm; subst hz)
      | refine part_of' (l := rl 8 s) (q := i * 10) (m := 10) (r := sc (s i)) (rl_part (by omega)) rfl (by omega) ?_
      | refine ld1_lit ?_
      | refine nw (fun n => ?_)
      | refine st_lit rfl ?_
      | refine need (by first | rfl | omega) ?_
      | (refine wr (fun z hz => ?_); (try rw [Int.tdiv_eq_ediv_of_nonneg (by omega)] at hz); rw [w64 (by omega) (by omega)] at hz; subst hz)
      | (refine ifs (fun h => ?_) (fun h => ?_) <;> (try (exfalso; first | omega | with_reducible contradiction | with_reducible exact h rfl))))
  all_goals (conv => whnf)
  · obtain rfl : k = i := isF_eq hk hi (by omega) (by assumption)
    rw [if_pos (by omega)]
    exact fin_look r ⟨rfl, rfl⟩
  · exact ⟨rfl, fin_look r ⟨8 - (i + 1), by omega, i + 1, rfl, isF_ne hk hi (by omega) (by assumption), rfl, rfl⟩⟩
  · rw [if_neg (by omega)]
    exact fin_look r ⟨rfl, rfl⟩
theorem slot_in (r : Nat) (n : Int) (i : Nat) (s : Nat → Sl10) (h8 : n ≤ 8) (h : (i : Int) < n) : Fnc Tryz.prog 112 [pt r, .int .i64 i] [tB r n s]
    (Ret (if (s i).g < 0 then .tuple #[.pointer none, .int .i64 7] else .tuple #[.pointer (some ⟨r, 1 + i * 10, none⟩), .int .i64 0]) [tB r n s]) := by
  refine fn_intro Tryz.func112 (by kernel_rfl) ?_
  repeat' ((conv => whnf); first
      | refine ld1_row (tc_0 _ _) ?_
      | (refine nv (fun z hz => ?_); (try simp at hz); replace hz := hz.symm; subst hz)
      | refine ld1_row (v := .int .i64 (s i).g) (tc_get (k := 0) (by omega) (by omega)) ?_
      | refine need (by first | rfl | omega) ?_
      | (refine ifs (fun h => ?_) (fun h => ?_) <;> (try (exfalso; first | omega | with_reducible contradiction | with_reducible exact h rfl))))
  all_goals (conv => whnf)
  · rw [if_pos (by assumption)]; exact fin_all ⟨rfl, rfl⟩
  · rw [if_neg (by assumption)]; exact fin_all ⟨rfl, rfl⟩
end Go.Proofs.YtkjamonkohpcnaaGreat.Slots
/- Tables of slots: the methods that change a table. -/
namespace Go.Proofs.YtkjamonkohpcnaaGreat.Slots
open Go Ev Be
set_option linter.unusedVariables false
set_option linter.unusedSimpArgs false
set_option maxRecDepth 100000
def takeS (g : Int) : Sl10 := ⟨g, fun _ => false, fun _ => false, 0⟩
def busyB (x : Sl10) : Bool := x.d 0 || x.d 1 || x.d 2 || x.d 3
theorem busy_iff (x : Sl10) : [Value.bool (x.d 0), .bool (x.d 1), .bool (x.d 2), .bool (x.d 3)] = [.bool false, .bool false, .bool false, .bool false] ↔ busyB x = false := by
  unfold busyB
  cases x.d 0 <;> cases x.d 1 <;> cases x.d 2 <;> cases x.d 3 <;> simp
def setV (x : Sl10) (p : Nat) (b : Bool) : Sl10 := { x with v := fun j => if j = p then b else x.v j }
def setD (x : Sl10) (p : Nat) (b : Bool) : Sl10 := { x with d := fun j => if j = p then b else x.d j }
theorem sc_setV (x : Sl10) {p : Nat} (hp : p < 4) (b : Bool) : (sc x).set (1 + p) (.bool b) = sc (setV x p b) := by
  match p, hp with
  | 0, _ => rfl
  | 1, _ => rfl
  | 2, _ => rfl
  | 3, _ => rfl
theorem sc_setD (x : Sl10) {p : Nat} (hp : p < 4) (b : Bool) : (sc x).set (5 + p) (.bool b) = sc (setD x p b) := by
  match p, hp with
  | 0, _ => rfl
  | 1, _ => rfl
  | 2, _ => rfl
  | 3, _ => rfl
theorem upd_at (s : Nat → Sl10) (i : Nat) (x : Sl10) : upd s i x i = x := if_pos rfl
theorem upd_upd (s : Nat → Sl10) (i : Nat) (x y : Sl10) : upd (upd s i x) i y = upd s i y := by
  funext j; unfold upd; split <;> rfl
theorem sc_one (x : Sl10) : ∀ u ∈ sc x, u.oneCell' = true := by
  intro u hu
  simp only [List.mem_cons, List.not_mem_nil, or_false] at hu
  rcases hu with rfl | rfl | rfl | rfl | rfl | rfl | rfl | rfl | rfl | rfl <;> rfl
section
variable {P : Program} {M : List Blk}
theorem st_slot {r i : Nat} {N : Int} {s : Nat → Sl10} (x : Sl10) {T : TypeId} {f : Blk → List Blk} {K : List Blk → Prop} [z : Zip M r (.row (tc N s) T) f] (hi : i < 8) (hk : K (f ⟨r, .row (tc N (upd s i x)) T⟩)) : StN P M r (1 + i * 10) (sc x) K :=
  st_rowN (sc_one x) (by rw [tc_len, sc_len]; omega) (by rw [sc_len, tc_set hi]; exact hk)
theorem st_slot1 {r i : Nat} {N : Int} {s : Nat → Sl10} (k : Nat) (x : Sl10) {u : Value} {T : TypeId} {f : Blk → List Blk} {K : List Blk → Prop} [z : Zip M r (.row (tc N s) T) f] (hi : i < 8) (hk10 : k < 10) (hx : (sc (s i)).set k u = sc x) (h1 : u.oneCell' = true) (hk : K (f ⟨r, .row (tc N (upd s i x)) T⟩)) : StN P M r (1 + i * 10 + k) [u] K :=
  st_row h1 (by rw [tc_len]; omega) (by rw [tc_set1 hi hk10 hx]; exact hk)
theorem st_slot1' {r i off : Nat} {N : Int} {s : Nat → Sl10} (k : Nat) (x : Sl10) {u : Value} {T : TypeId} {f : Blk → List Blk} {K : List Blk → Prop} [z : Zip M r (.row (tc N s) T) f] (ho : off = 1 + i * 10 + k) (hi : i < 8) (hk10 : k < 10) (hx : (sc (s i)).set k u = sc x) (h1 : u.oneCell' = true) (hk : K (f ⟨r, .row (tc N (upd s i x)) T⟩)) : StN P M r off [u] K := by
  subst ho; exact st_slot1 k x hi hk10 hx h1 hk
end
attribute [local irreducible] rl tc convert Builtin.copy_ Builtin.append_ Instr.makeSlice
section
variable (r N : Nat) (s : Nat → Sl10)
theorem take_ok (h8 : N ≤ 8) (g : Int) (h0 : 0 ≤ g) (h1 : g ≤ 15) (hk : IsF (fun j => (s j).g = g) 8 8) (k : Nat) (hf : IsF (fun j => (s j).g < 0) N k) (hkN : k < N) :
    Fnc Tryz.prog 54 [pt r, .int .i64 g] [tB r N s] (Ret (.tuple #[.int .i64 k, .int .i64 0]) [tB r N (upd s k (takeS g))]) := by
  have hfi := find r N g s 8 h0 hk
  rw [if_neg (by omega)] at hfi
  refine fn_intro Tryz.func54 (by kernel_rfl) ?_
  repeat' ((conv => whnf); first
      | refine call_same hfi ?_
      | refine ld1_row (tc_0 _ _) ?_
      | refine loop_rule [30] (fun vs M m => ∃ i : Nat, vs = [.int .i64 i] ∧ i ≤ k ∧ m = 8 - i ∧ M = [tB r N s]) rfl ?_ ?_
      | (refine ifs (fun h => ?_) (fun h => ?_) <;> (try (exfalso; first | omega | with_reducible contradiction | with_reducible exact h rfl))))
  · exact fin_all ⟨_, 0, rfl, by omega, rfl, rfl⟩
  rintro vs junk M' m ⟨i, rfl, hi, rfl, rfl⟩
  repeat' ((conv => whnf); first
      | (refine nv (fun z hz => ?_); (try simp at hz); replace hz := hz.symm; subst hz)
      | refine ld1_row (v := .int .i64 (s i).g) (tc_get (k := 0) (by omega) (by omega)) ?_
      | refine st_slot (i := i) (takeS g) (by omega) ?_
      | refine bld ?_
      | refine need (by first | rfl | omega) ?_
      | (refine wr (fun z hz => ?_); (try rw [Int.tdiv_eq_ediv_of_nonneg (by omega)] at hz); rw [w64 (by omega) (by omega)] at hz; subst hz)
      | (refine ifs (fun h => ?_) (fun h => ?_) <;> (try (exfalso; first | omega | with_reducible contradiction | with_reducible exact h rfl))))
  all_goals (conv => whnf)
  · obtain rfl : k = i := isF_eq hf hi (by omega) (by assumption)
    exact fin_all ⟨rfl, rfl⟩
  · exact ⟨rfl, fin_all ⟨8 - (i + 1), by omega, i + 1, rfl, isF_ne hf hi (by omega) (by assumption), rfl, rfl⟩⟩
theorem mark_ok (h8 : N ≤ 8) (i p : Nat) (v d : Bool) (h : i < N) (hp : p < 4) (hg : ¬ (s i).g < 0) (hvd : d = true → v = true) : Fnc Tryz.prog 55 [pt r, .int .i64 i, .int .i64 p, .bool v, .bool d] [tB r N s] (Ret (.int .i64 0) [tB r N (upd s i (setD (setV (s i) p v) p d))]) := by
  have hs := slot_in r N i s (by omega) (by omega)
  rw [if_neg hg] at hs
  refine fn_intro Tryz.func55 (by kernel_rfl) ?_
  cases d <;> cases v
  all_goals repeat' ((conv => whnf); first
      | refine call_same hs ?_
      | refine draw_any 8 [(0, true), (1, true), (2, true), (3, true), (4, true), (5, true), (6, true), (7, true), (8, true), (10, true), (11, true), (9, false), (12, true), (13, false)] [] rfl (by kernel_rfl) ?_
      | refine kept_nil ?_
      | (refine nv (fun z hz => ?_); (try simp at hz); replace hz := hz.symm; subst hz)
      | refine st_slot1' (i := i) (1 + p) _ (by omega) (by omega) (by omega) (sc_setV (s i) hp _) rfl ?_
      | refine st_slot1' (i := i) (5 + p) _ (by omega) (by omega) (by omega) (by rw [upd_at]; exact sc_setD _ hp _) rfl ?_
      | refine need (by first | rfl | omega) ?_
      | (refine ifs (fun h => ?_) (fun h => ?_) <;> (try (exfalso; first | omega | with_reducible contradiction | with_reducible exact h rfl))))
  all_goals (conv => whnf)
  all_goals first
    | exact fin_all ⟨rfl, by rw [upd_upd]⟩
    | exact absurd (hvd rfl) (by decide)
end
end Go.Proofs.YtkjamonkohpcnaaGreat.Slots
/- Tables of slots: new ones; how many are dirty, and used; bits. -/
namespace Go.Proofs.YtkjamonkohpcnaaGreat.Slots
open Go Ev Be
set_option linter.unusedVariables false
set_option linter.unusedSimpArgs false
set_option maxRecDepth 100000
/-- A block's cells, spelled out or as a row: the same. -/
theorem St_swap {A L R : List Blk} {w0 w : World} {n : Nat} {o o' : BO} (h : St A w0 w (L ++ ⟨n, o⟩ :: R)) (hr : (⟨n, o⟩ : Blk).ro = (⟨n, o'⟩ : Blk).ro) (hh : (⟨n, o⟩ : Blk).holds w → (⟨n, o'⟩ : Blk).holds w) : St A w0 w (L ++ ⟨n, o'⟩ :: R) := by
  refine ⟨h.os, h.tape, h.output, h.size, h.keep, fun b hb => ?_, fun b hb => ?_, ?_⟩
  · rcases List.mem_append.1 hb with hb | hb
    · exact h.has b (List.mem_append.2 (.inl hb))
    · rcases List.mem_cons.1 hb with rfl | hb
      · exact hh (h.has _ (List.mem_append.2 (.inr List.mem_cons_self)))
      · exact h.has b (List.mem_append.2 (.inr (List.mem_cons_of_mem _ hb)))
  · rcases List.mem_append.1 hb with hb | hb
    · exact h.own b (List.mem_append.2 (.inl hb))
    · rcases List.mem_cons.1 hb with rfl | hb
      · have := h.own ⟨n, o⟩ (List.mem_append.2 (.inr List.mem_cons_self))
        rw [hr] at this; exact this
      · exact h.own b (List.mem_append.2 (.inr (List.mem_cons_of_mem _ hb)))
  · have hp := List.pairwise_append.1 h.apart
    have hc := List.pairwise_cons.1 hp.2.1
    refine List.pairwise_append.2 ⟨hp.1, List.pairwise_cons.2 ⟨fun b hb e => ?_, hc.2⟩, fun a ha b hb => ?_⟩
    · have := hc.1 b hb e; rw [hr] at this; exact this
    · rcases List.mem_cons.1 hb with rfl | hb
      · intro e; have := hp.2.2 a ha ⟨n, o⟩ List.mem_cons_self e; rw [hr] at this; exact this
      · exact hp.2.2 a ha b (List.mem_cons_of_mem _ hb)
theorem to_row (n : Nat) {P : Program} {c : Code} {fr : List Value} {M : List Blk} {K : Ks} {cs cs' : List Value} {t : TypeId} {f : Blk → List Blk} [z : Zip M n (.cells cs t) f] (he : cs = cs') (h : CodeW P c fr (f ⟨n, .row cs' t⟩) K) : CodeW P c fr M K := by
  subst he
  obtain ⟨L, R, e1, e2⟩ := z.out
  rw [e2] at h
  subst e1
  exact ⟨fun A w0 w ds st => h.out A w0 w ds (St_swap st rfl (fun hh => hh))⟩
def cnt (p : Nat → Bool) : Nat → Nat
  | 0 => 0
  | k + 1 => cnt p k + (if p k then 1 else 0)
theorem cnt_le (p : Nat → Bool) : ∀ k, cnt p k ≤ k
  | 0 => Nat.le_refl _
  | k + 1 => by have := cnt_le p k; unfold cnt; split <;> omega
theorem cnt_t {p : Nat → Bool} {k : Nat} (h : p k = true) : cnt p (k + 1) = cnt p k + 1 := by rw [cnt, if_pos h]
theorem cnt_f {p : Nat → Bool} {k : Nat} (h : ¬ p k = true) : cnt p (k + 1) = cnt p k := by rw [cnt, if_neg h, Nat.add_zero]
def usedB (x : Sl10) : Bool := decide (0 ≤ x.g)
abbrev zT (n : Int) : List Value := [.int .i64 n, .int .i64 0, .bool false, .bool false, .bool false, .bool false, .bool false, .bool false, .bool false, .bool false, .int .i64 0, .int .i64 0, .bool false, .bool false, .bool false, .bool false, .bool false, .bool false, .bool false, .bool false, .int .i64 0, .int .i64 0, .bool false, .bool false, .bool false, .bool false, .bool false, .bool false, .bool false, .bool false, .int .i64 0, .int .i64 0, .bool false, .bool false, .bool false, .bool false, .bool false, .bool false, .bool false, .bool false, .int .i64 0, .int .i64 0, .bool false, .bool false, .bool false, .bool false, .bool false, .bool false, .bool false, .bool false, .int .i64 0, .int .i64 0, .bool false, .bool false, .bool false, .bool false, .bool false, .bool false, .bool false, .bool false, .int .i64 0, .int .i64 0, .bool false, .bool false, .bool false, .bool false, .bool false, .bool false, .bool false, .bool false, .int .i64 0, .int .i64 0, .bool false, .bool false, .bool false, .bool false, .bool false, .bool false, .bool false, .bool false, .int .i64 0]
theorem tc_zero (n : Int) : zT n = tc n (fun j => if j < 0 then freeS else zeroS) := rfl
theorem tc_next {i : Nat} : upd (fun j => if j < i then freeS else zeroS) i freeS = (fun j => if j < i + 1 then freeS else zeroS) := by
  funext j
  unfold upd
  by_cases h : j = i
  · rw [if_pos h, if_pos (by omega)]
  · rw [if_neg h]
    show (if j < i then freeS else zeroS) = _
    by_cases h2 : j < i
    · rw [if_pos h2, if_pos (by omega)]
    · rw [if_neg h2, if_neg (by omega)]
/-- Places' bits, of the first i. -/
def bu (v0 v1 v2 v3 d0 d1 d2 d3 : Bool) (i : Nat) : Int :=
  (if 0 < i ∧ v0 then 16 else 0) + (if 0 < i ∧ d0 then 1 else 0) + (if 1 < i ∧ v1 then 32 else 0) + (if 1 < i ∧ d1 then 2 else 0) + (if 2 < i ∧ v2 then 64 else 0) + (if 2 < i ∧ d2 then 4 else 0) + (if 3 < i ∧ v3 then 128 else 0) + (if 3 < i ∧ d3 then 8 else 0)
def biX (x : Sl10) (i : Nat) : Int := bu (x.v 0) (x.v 1) (x.v 2) (x.v 3) (x.d 0) (x.d 1) (x.d 2) (x.d 3) i
attribute [local irreducible] rl tc convert Builtin.copy_ Builtin.append_ Instr.makeSlice
theorem new_in (N : Nat) (h : 1 ≤ N) (h8 : N ≤ 8) : Fnc Tryz.prog 81 [.int .i64 N] [] (fun e A => ∃ r, e = .returned (.tuple #[pt r, .int .i64 0]) ∧ A = [tB r N (fun j => if j < 8 then freeS else zeroS)]) := by
  refine fn_intro Tryz.func81 (by kernel_rfl) ?_
  repeat' ((conv => whnf); first
      | refine nw (fun n => ?_)
      | refine bld ?_
      | (refine ifs (fun h => ?_) (fun h => ?_) <;> (try (exfalso; first | omega | with_reducible contradiction | with_reducible exact h rfl))))
  refine to_row n (tc_zero N) ?_
  refine loop_rule [15] (fun vs M m => ∃ i : Nat, vs = [.int .i64 i] ∧ i ≤ 8 ∧ m = 8 - i ∧ M = [tB n N (fun j => if j < i then freeS else zeroS)]) rfl ?_ ?_
  · exact fin_all ⟨_, 0, rfl, by omega, rfl, rfl⟩
  rintro vs junk M' m ⟨i, rfl, hi, rfl, rfl⟩
  repeat' ((conv => whnf); first
      | refine draw_any 7 [(0, true), (1, true), (3, true), (4, true), (2, false), (5, true), (6, false)] [] rfl (by kernel_rfl) ?_
      | refine kept_nil ?_
      | refine call_val free ?_
      | (refine nv (fun z hz => ?_); (try simp at hz); replace hz := hz.symm; subst hz)
      | refine st_slot (i := i) freeS (by omega) ?_
      | refine need (by first | rfl | omega) ?_
      | (refine wr (fun z hz => ?_); (try rw [Int.tdiv_eq_ediv_of_nonneg (by omega)] at hz); rw [w64 (by omega) (by omega)] at hz; subst hz)
      | (refine ifs (fun h => ?_) (fun h => ?_) <;> (try (exfalso; first | omega | with_reducible contradiction | with_reducible exact h rfl))))
  all_goals (conv => whnf)
  · refine ⟨rfl, fin_all ⟨8 - (i + 1), by omega, i + 1, rfl, by omega, rfl, ?_⟩⟩
    rw [tc_next]
  · obtain rfl : i = 8 := by omega
    exact fin_all ⟨_, rfl, rfl⟩
theorem len_ (r N : Nat) (s : Nat → Sl10) : Fnc Tryz.prog 53 [pt r] [tB r N s] (Ret (.int .i64 (cnt (fun j => usedB (s j)) 8)) [tB r N s]) := by
  refine fn_intro Tryz.func53 (by kernel_rfl) ?_
  repeat' ((conv => whnf); first
      | refine ldN_row (rl 8 s) (by rw [rl_len]; exact tc_all N s) (rl_len 8 s) ?_
      | refine loop_rule [13, 3] (fun vs M m => ∃ i : Nat, vs = [.int .i64 i, .int .i64 (cnt (fun j => usedB (s j)) i)] ∧ i ≤ 8 ∧ m = 8 - i ∧ M = [tB r N s]) rfl ?_ ?_)
  · exact fin_all ⟨_, 0, rfl, by omega, rfl, rfl⟩
  rintro vs junk M' m ⟨i, rfl, hi, rfl, rfl⟩
  have hc := cnt_le (fun j => usedB (s j)) i
  repeat' ((conv => whnf); first
      | (refine nv (fun z hz => ?_); (try simp at hz); replace hz := hz.symm; subst hz)
      | refine part_of' (l := rl 8 s) (q := i * 10) (m := 10) (r := sc (s i)) (rl_part (by omega)) rfl (by omega) ?_
      | refine ld1_lit ?_
      | refine nw (fun n => ?_)
      | refine st_lit rfl ?_
      | refine need (by first | rfl | omega) ?_
      | (refine wr (fun z hz => ?_); (try rw [Int.tdiv_eq_ediv_of_nonneg (by omega)] at hz); rw [w64 (by omega) (by omega)] at hz; subst hz)
      | (refine ifs (fun h => ?_) (fun h => ?_) <;> (try (exfalso; first | omega | with_reducible contradiction | with_reducible exact h rfl))))
  all_goals (conv => whnf)
  · refine ⟨rfl, fin_look r ⟨8 - (i + 1), by omega, i + 1, ?_, by omega, rfl, rfl⟩⟩
    rw [cnt_t (p := fun j => usedB (s j)) (k := i) (by unfold usedB; exact decide_eq_true (by assumption))]; rfl
  · refine ⟨rfl, fin_look r ⟨8 - (i + 1), by omega, i + 1, ?_, by omega, rfl, rfl⟩⟩
    rw [cnt_f (p := fun j => usedB (s j)) (k := i) (by unfold usedB; simp; omega)]; rfl
  · obtain rfl : i = 8 := by omega
    exact fin_look r ⟨rfl, rfl⟩
theorem dirty (r N : Nat) (s : Nat → Sl10) : Fnc Tryz.prog 35 [pt r] [tB r N s] (Ret (.int .i64 (cnt (fun j => busyB (s j)) 8)) [tB r N s]) := by
  refine fn_intro Tryz.func35 (by kernel_rfl) ?_
  repeat' ((conv => whnf); first
      | refine ldN_row (rl 8 s) (by rw [rl_len]; exact tc_all N s) (rl_len 8 s) ?_
      | refine loop_rule [13, 3] (fun vs M m => ∃ i : Nat, vs = [.int .i64 i, .int .i64 (cnt (fun j => busyB (s j)) i)] ∧ i ≤ 8 ∧ m = 8 - i ∧ M = [tB r N s]) rfl ?_ ?_)
  · exact fin_all ⟨_, 0, rfl, by omega, rfl, rfl⟩
  rintro vs junk M' m ⟨i, rfl, hi, rfl, rfl⟩
  have hc := cnt_le (fun j => busyB (s j)) i
  repeat' ((conv => whnf); first
      | (refine nv (fun z hz => ?_); (try simp at hz); replace hz := hz.symm; subst hz)
      | refine part_of' (l := rl 8 s) (q := i * 10) (m := 10) (r := sc (s i)) (rl_part (by omega)) rfl (by omega) ?_
      | (refine agg_neq k4 (by decide) rfl rfl rfl rfl (by kernel_rfl) (f4 _ _ _ _) (f4 _ _ _ _) ?_; refine ifs (fun hb => ?_) (fun hb => ?_) <;> rw [busy_iff] at hb)
      | refine ldN_lit ?_
      | refine nw (fun n => ?_)
      | refine bld ?_
      | refine st_lit rfl ?_
      | refine need (by first | rfl | omega) ?_
      | (refine wr (fun z hz => ?_); (try rw [Int.tdiv_eq_ediv_of_nonneg (by omega)] at hz); rw [w64 (by omega) (by omega)] at hz; subst hz)
      | (refine ifs (fun h => ?_) (fun h => ?_) <;> (try (exfalso; first | omega | with_reducible contradiction | with_reducible exact h rfl))))
  all_goals (conv => whnf)
  · refine ⟨rfl, fin_look r ⟨8 - (i + 1), by omega, i + 1, ?_, by omega, rfl, rfl⟩⟩
    rw [cnt_f (p := fun j => busyB (s j)) (k := i) (by simp [hb])]; rfl
  · refine ⟨rfl, fin_look r ⟨8 - (i + 1), by omega, i + 1, ?_, by omega, rfl, rfl⟩⟩
    rw [cnt_t (p := fun j => busyB (s j)) (k := i) (by simpa using hb)]; rfl
  · obtain rfl : i = 8 := by omega
    exact fin_look r ⟨rfl, rfl⟩
end Go.Proofs.YtkjamonkohpcnaaGreat.Slots
/- Tables of slots: a slot's bits. -/
namespace Go.Proofs.YtkjamonkohpcnaaGreat.Slots
open Go Ev Be
set_option linter.unusedVariables false
set_option linter.unusedSimpArgs false
set_option maxRecDepth 100000
theorem or_v0 : ∀ v0 v1 v2 v3 d0 d1 d2 d3 : Bool, IntKind.i64.wrap ((BitVec.ofInt IntKind.i64.bits (bu v0 v1 v2 v3 d0 d1 d2 d3 0) ||| BitVec.ofInt IntKind.i64.bits 16).toNat : Int) = bu v0 v1 v2 v3 d0 d1 d2 d3 0 + 16 := by decide +kernel
theorem or_dF0 : ∀ v0 v1 v2 v3 d0 d1 d2 d3 : Bool, IntKind.i64.wrap ((BitVec.ofInt IntKind.i64.bits (bu v0 v1 v2 v3 d0 d1 d2 d3 0) ||| BitVec.ofInt IntKind.i64.bits 1).toNat : Int) = bu v0 v1 v2 v3 d0 d1 d2 d3 0 + 1 := by decide +kernel
theorem or_dT0 : ∀ v0 v1 v2 v3 d0 d1 d2 d3 : Bool, IntKind.i64.wrap ((BitVec.ofInt IntKind.i64.bits (bu v0 v1 v2 v3 d0 d1 d2 d3 0 + 16) ||| BitVec.ofInt IntKind.i64.bits 1).toNat : Int) = bu v0 v1 v2 v3 d0 d1 d2 d3 0 + 16 + 1 := by decide +kernel
theorem or_v1 : ∀ v0 v1 v2 v3 d0 d1 d2 d3 : Bool, IntKind.i64.wrap ((BitVec.ofInt IntKind.i64.bits (bu v0 v1 v2 v3 d0 d1 d2 d3 1) ||| BitVec.ofInt IntKind.i64.bits 32).toNat : Int) = bu v0 v1 v2 v3 d0 d1 d2 d3 1 + 32 := by decide +kernel
theorem or_dF1 : ∀ v0 v1 v2 v3 d0 d1 d2 d3 : Bool, IntKind.i64.wrap ((BitVec.ofInt IntKind.i64.bits (bu v0 v1 v2 v3 d0 d1 d2 d3 1) ||| BitVec.ofInt IntKind.i64.bits 2).toNat : Int) = bu v0 v1 v2 v3 d0 d1 d2 d3 1 + 2 := by decide +kernel
theorem or_dT1 : ∀ v0 v1 v2 v3 d0 d1 d2 d3 : Bool, IntKind.i64.wrap ((BitVec.ofInt IntKind.i64.bits (bu v0 v1 v2 v3 d0 d1 d2 d3 1 + 32) ||| BitVec.ofInt IntKind.i64.bits 2).toNat : Int) = bu v0 v1 v2 v3 d0 d1 d2 d3 1 + 32 + 2 := by decide +kernel
theorem or_v2 : ∀ v0 v1 v2 v3 d0 d1 d2 d3 : Bool, IntKind.i64.wrap ((BitVec.ofInt IntKind.i64.bits (bu v0 v1 v2 v3 d0 d1 d2 d3 2) ||| BitVec.ofInt IntKind.i64.bits 64).toNat : Int) = bu v0 v1 v2 v3 d0 d1 d2 d3 2 + 64 := by decide +kernel
theorem or_dF2 : ∀ v0 v1 v2 v3 d0 d1 d2 d3 : Bool, IntKind.i64.wrap ((BitVec.ofInt IntKind.i64.bits (bu v0 v1 v2 v3 d0 d1 d2 d3 2) ||| BitVec.ofInt IntKind.i64.bits 4).toNat : Int) = bu v0 v1 v2 v3 d0 d1 d2 d3 2 + 4 := by decide +kernel
theorem or_dT2 : ∀ v0 v1 v2 v3 d0 d1 d2 d3 : Bool, IntKind.i64.wrap ((BitVec.ofInt IntKind.i64.bits (bu v0 v1 v2 v3 d0 d1 d2 d3 2 + 64) ||| BitVec.ofInt IntKind.i64.bits 4).toNat : Int) = bu v0 v1 v2 v3 d0 d1 d2 d3 2 + 64 + 4 := by decide +kernel
theorem or_v3 : ∀ v0 v1 v2 v3 d0 d1 d2 d3 : Bool, IntKind.i64.wrap ((BitVec.ofInt IntKind.i64.bits (bu v0 v1 v2 v3 d0 d1 d2 d3 3) ||| BitVec.ofInt IntKind.i64.bits 128).toNat : Int) = bu v0 v1 v2 v3 d0 d1 d2 d3 3 + 128 := by decide +kernel
theorem or_dF3 : ∀ v0 v1 v2 v3 d0 d1 d2 d3 : Bool, IntKind.i64.wrap ((BitVec.ofInt IntKind.i64.bits (bu v0 v1 v2 v3 d0 d1 d2 d3 3) ||| BitVec.ofInt IntKind.i64.bits 8).toNat : Int) = bu v0 v1 v2 v3 d0 d1 d2 d3 3 + 8 := by decide +kernel
theorem or_dT3 : ∀ v0 v1 v2 v3 d0 d1 d2 d3 : Bool, IntKind.i64.wrap ((BitVec.ofInt IntKind.i64.bits (bu v0 v1 v2 v3 d0 d1 d2 d3 3 + 128) ||| BitVec.ofInt IntKind.i64.bits 8).toNat : Int) = bu v0 v1 v2 v3 d0 d1 d2 d3 3 + 128 + 8 := by decide +kernel
theorem bu_bd : ∀ (v0 v1 v2 v3 d0 d1 d2 d3 : Bool), ∀ i, i < 5 → 0 ≤ bu v0 v1 v2 v3 d0 d1 d2 d3 i ∧ bu v0 v1 v2 v3 d0 d1 d2 d3 i ≤ 255 := by decide +kernel
attribute [local irreducible] bu convert Builtin.copy_ Builtin.append_ Instr.makeSlice
set_option maxHeartbeats 2000000 in
theorem bits' (g lv : Int) (v0 v1 v2 v3 d0 d1 d2 d3 : Bool) : Fnc Tryz.prog 66 [.agg #[.int .i64 g, .bool v0, .bool v1, .bool v2, .bool v3, .bool d0, .bool d1, .bool d2, .bool d3, .int .i64 lv]] [] (Ret (.int .i64 (bu v0 v1 v2 v3 d0 d1 d2 d3 4)) []) := by
  have e0 : bu v0 v1 v2 v3 d0 d1 d2 d3 0 = 0 := by revert v0 v1 v2 v3 d0 d1 d2 d3; unfold bu; decide +kernel
  refine fn_intro Tryz.func66 (by kernel_rfl) ?_
  repeat' ((conv => whnf); first
      | refine nw (fun n => ?_))
  refine loop_rule [5, 3] (fun vs M m => ∃ i : Nat, vs = [.int .i64 i, .int .i64 (bu v0 v1 v2 v3 d0 d1 d2 d3 i)] ∧ i ≤ 4 ∧ m = 4 - i ∧ M = [⟨n, .cells [.int .i64 g, .bool v0, .bool v1, .bool v2, .bool v3, .bool d0, .bool d1, .bool d2, .bool d3, .int .i64 lv] 66⟩]) rfl ?_ ?_
  · exact fin_all ⟨_, 0, by rw [e0]; rfl, by omega, rfl, rfl⟩
  rintro vs junk M' m ⟨i, rfl, hi, rfl, rfl⟩
  have hcase : i = 0 ∨ i = 1 ∨ i = 2 ∨ i = 3 ∨ i = 4 := by omega
  rcases hcase with rfl | rfl | rfl | rfl | rfl
  · cases v0 <;> cases d0
    all_goals repeat' ((conv => whnf); first
        | (refine nv (fun z hz => ?_); (try simp at hz); replace hz := hz.symm; subst hz)
        | (refine wr (fun z hz => ?_); rw [show z = 16 from by rw [hz]; with_reducible decide])
        | (refine wr (fun z hz => ?_); rw [show z = 1 from by rw [hz]; with_reducible decide])
        | (refine wr (fun z hz => ?_); rw [or_v0] at hz; subst hz)
        | (refine wr (fun z hz => ?_); rw [or_dT0] at hz; subst hz)
        | (refine wr (fun z hz => ?_); rw [or_dF0] at hz; subst hz)
        | refine ld1_lit ?_
        | refine need (by first | rfl | omega) ?_
        | (refine ifs (fun h => ?_) (fun h => ?_) <;> (try (exfalso; first | omega | with_reducible contradiction | with_reducible exact h rfl))))
    all_goals (conv => whnf)
    all_goals refine ⟨rfl, fin_all ⟨4 - 1, by omega, 1, ?_, by omega, rfl, rfl⟩⟩
    all_goals (congr 2; congr 1)
    all_goals (clear e0; revert v1 v2 v3 d1 d2 d3; unfold bu; decide +kernel)
  · cases v1 <;> cases d1
    all_goals repeat' ((conv => whnf); first
        | (refine nv (fun z hz => ?_); (try simp at hz); replace hz := hz.symm; subst hz)
        | (refine wr (fun z hz => ?_); rw [show z = 32 from by rw [hz]; with_reducible decide])
        | (refine wr (fun z hz => ?_); rw [show z = 2 from by rw [hz]; with_reducible decide])
        | (refine wr (fun z hz => ?_); rw [or_v1] at hz; subst hz)
        | (refine wr (fun z hz => ?_); rw [or_dT1] at hz; subst hz)
        | (refine wr (fun z hz => ?_); rw [or_dF1] at hz; subst hz)
        | refine ld1_lit ?_
        | refine need (by first | rfl | omega) ?_
        | (refine ifs (fun h => ?_) (fun h => ?_) <;> (try (exfalso; first | omega | with_reducible contradiction | with_reducible exact h rfl))))
    all_goals (conv => whnf)
    all_goals refine ⟨rfl, fin_all ⟨4 - 2, by omega, 2, ?_, by omega, rfl, rfl⟩⟩
    all_goals (congr 2; congr 1)
    all_goals (clear e0; revert v0 v2 v3 d0 d2 d3; unfold bu; decide +kernel)
  · cases v2 <;> cases d2
    all_goals repeat' ((conv => whnf); first
        | (refine nv (fun z hz => ?_); (try simp at hz); replace hz := hz.symm; subst hz)
        | (refine wr (fun z hz => ?_); rw [show z = 64 from by rw [hz]; with_reducible decide])
        | (refine wr (fun z hz => ?_); rw [show z = 4 from by rw [hz]; with_reducible decide])
        | (refine wr (fun z hz => ?_); rw [show z = 3 from by rw [hz]; with_reducible decide])
        | (refine wr (fun z hz => ?_); rw [or_v2] at hz; subst hz)
        | (refine wr (fun z hz => ?_); rw [or_dT2] at hz; subst hz)
        | (refine wr (fun z hz => ?_); rw [or_dF2] at hz; subst hz)
        | refine ld1_lit ?_
        | refine need (by first | rfl | omega) ?_
        | (refine ifs (fun h => ?_) (fun h => ?_) <;> (try (exfalso; first | omega | with_reducible contradiction | with_reducible exact h rfl))))
    all_goals (conv => whnf)
    all_goals refine ⟨rfl, fin_all ⟨4 - 3, by omega, 3, ?_, by omega, rfl, rfl⟩⟩
    all_goals (congr 2; congr 1)
    all_goals (clear e0; revert v0 v1 v3 d0 d1 d3; unfold bu; decide +kernel)
  · cases v3 <;> cases d3
    all_goals repeat' ((conv => whnf); first
        | (refine nv (fun z hz => ?_); (try simp at hz); replace hz := hz.symm; subst hz)
        | (refine wr (fun z hz => ?_); rw [show z = 128 from by rw [hz]; with_reducible decide])
        | (refine wr (fun z hz => ?_); rw [show z = 8 from by rw [hz]; with_reducible decide])
        | (refine wr (fun z hz => ?_); rw [show z = 4 from by rw [hz]; with_reducible decide])
        | (refine wr (fun z hz => ?_); rw [or_v3] at hz; subst hz)
        | (refine wr (fun z hz => ?_); rw [or_dT3] at hz; subst hz)
        | (refine wr (fun z hz => ?_); rw [or_dF3] at hz; subst hz)
        | refine ld1_lit ?_
        | refine need (by first | rfl | omega) ?_
        | (refine ifs (fun h => ?_) (fun h => ?_) <;> (try (exfalso; first | omega | with_reducible contradiction | with_reducible exact h rfl))))
    all_goals (conv => whnf)
    all_goals refine ⟨rfl, fin_all ⟨4 - 4, by omega, 4, ?_, by omega, rfl, rfl⟩⟩
    all_goals (congr 2; congr 1)
    all_goals (clear e0; revert v0 v1 v2 d0 d1 d2; unfold bu; decide +kernel)
  · repeat' ((conv => whnf); first
      | exact fin_nil ⟨ret_int rfl, rfl⟩
      | (refine ifs (fun h => ?_) (fun h => ?_) <;> (try (exfalso; first | omega | with_reducible contradiction | with_reducible exact h rfl))))
end Go.Proofs.YtkjamonkohpcnaaGreat.Slots
/- Tables of slots: bytes. -/
namespace Go.Proofs.YtkjamonkohpcnaaGreat.Slots
open Go Ev Be
set_option linter.unusedVariables false
set_option linter.unusedSimpArgs false
set_option maxRecDepth 100000
def by1 (x : Int) : UInt8 := UInt8.ofNat x.toNat
theorem putE1 {n : Int} (h0 : 0 ≤ n) (h1 : n ≤ 255) : putE n 1 = 0 := by
  refine putE_ok (by omega) ?_
  have : ((256 : Int) ^ (1 : Int).toNat) = 256 := rfl
  rw [this]; omega
theorem bb1 (n : Nat) : bb 1 n = [UInt8.ofNat n] := by
  show [UInt8.ofNat (n / 256 ^ 0 % 256)] = _
  congr 1
  apply UInt8.toNat_inj.1
  simp
theorem putS1 {n : Int} (h0 : 0 ≤ n) (h1 : n ≤ 255) : putS n 1 = str [by1 n] := by
  rw [putS_ok (putE1 h0 h1), show (Int.toNat 1) = 1 from rfl, bb1]; rfl
theorem rowE_8 {l : List Int} (h8 : l.length ≤ 512) (h : ∀ x ∈ l, 0 ≤ x ∧ x ≤ 255) : rowE 1 l = 0 ∧ rowS 1 l = str (l.map by1) := by
  have hf : ∀ l : List Int, (∀ x ∈ l, 0 ≤ x ∧ x ≤ 255) → fe 1 l = 0 ∧ cat 1 l = l.map by1 := by
    intro l
    induction l with
    | nil => intro _; exact ⟨rfl, rfl⟩
    | cons x l ih =>
      intro h
      obtain ⟨i1, i2⟩ := ih (fun y hy => h y (List.mem_cons_of_mem _ hy))
      have hx := h x List.mem_cons_self
      refine ⟨by rw [fe, if_pos (putE1 hx.1 hx.2)]; exact i1, ?_⟩
      unfold cat at i2 ⊢
      rw [List.flatMap_cons, i2, putS1 hx.1 hx.2]
      rfl
  obtain ⟨i1, i2⟩ := hf l h
  have e : rowE 1 l = 0 := by unfold rowE; rw [if_neg (by omega), if_neg (by omega), i1]
  refine ⟨e, ?_⟩
  unfold rowS
  rw [if_pos e, i2]
/-- A slot's four numbers. -/
def sNum (x : Sl10) : List Int := [x.g + 1, biX x 4, x.lv, 0]
def rowI (s : Nat → Sl10) : Nat → List Int
  | 0 => []
  | i + 1 => rowI s i ++ sNum (s i)
theorem rowI_len (s : Nat → Sl10) : ∀ i, (rowI s i).length = 4 * i
  | 0 => rfl
  | i + 1 => by rw [rowI, List.length_append, rowI_len s i]; rfl
def okS (x : Sl10) : Prop := -1 ≤ x.g ∧ x.g ≤ 15 ∧ 0 ≤ x.lv ∧ x.lv ≤ 3
theorem biX_bd (x : Sl10) : 0 ≤ biX x 4 ∧ biX x 4 ≤ 255 := bu_bd _ _ _ _ _ _ _ _ 4 (by omega)
theorem rowI_bd {s : Nat → Sl10} : ∀ {i : Nat}, (∀ j, j < i → okS (s j)) → ∀ x ∈ rowI s i, 0 ≤ x ∧ x ≤ 255
  | 0, _, x, hx => by cases hx
  | i + 1, h, x, hx => by
    rw [rowI] at hx
    rcases List.mem_append.1 hx with hx | hx
    · exact rowI_bd (fun j hj => h j (by omega)) x hx
    · have h1 := h i (by omega)
      have h2 := biX_bd (s i)
      unfold okS at h1
      simp only [sNum, List.mem_cons, List.not_mem_nil, or_false] at hx
      rcases hx with rfl | rfl | rfl | rfl <;> omega
theorem pad_any {l : List UInt8} (h : l.length ≤ 48) : padE (str l) 48 = 0 ∧ padS (str l) 48 = str (l ++ List.replicate (48 - l.length) 0) := by
  have hE : padE (str l) 48 = 0 := by
    unfold padE
    rw [if_neg (by omega), if_neg (by rw [Ev.str_size]; omega)]
  refine ⟨hE, ?_⟩
  unfold padS full
  rw [if_pos hE]
  by_cases h1 : (48 : Int) ≤ (str l).size
  · rw [if_pos h1]
    rw [Ev.str_size] at h1
    have : 48 - l.length = 0 := by omega
    rw [this]; simp
  · rw [if_neg h1, Ev.str_size, str_append]
    congr 3
    omega
def sBy (s : Nat → Sl10) : ByteArray := str ((rowI s 8).map by1 ++ List.replicate 16 0)
theorem ints_next (s : Nat → Sl10) (i : Nat) : ints (rowI s (i + 1)) = ints (rowI s i) ++ [.int .i64 ((s i).g + 1), .int .i64 (bu ((s i).v 0) ((s i).v 1) ((s i).v 2) ((s i).v 3) ((s i).d 0) ((s i).d 1) ((s i).d 2) ((s i).d 3) 4), .int .i64 (s i).lv, .int .i64 0] := by
  show List.map _ (rowI s i ++ sNum (s i)) = _
  rw [List.map_append]
  rfl
attribute [local irreducible] rl tc bu biX rowI rowE rowS padE padS convert Builtin.copy_ Builtin.append_ Instr.makeSlice
set_option maxHeartbeats 2000000 in
theorem bytes (r N : Nat) (s : Nat → Sl10) (hW : ∀ j, j < 8 → okS (s j)) : Fnc Tryz.prog 27 [pt r] [tB r N s] (Ret (.string (sBy s)) [tB r N s]) := by
  have hre := rowE_8 (l := rowI s 8) (by rw [rowI_len]; omega) (rowI_bd hW)
  have hpad := pad_any (l := (rowI s 8).map by1) (by rw [List.length_map, rowI_len]; omega)
  rw [List.length_map, rowI_len] at hpad
  have hlen := rowI_len s 8
  refine fn_intro Tryz.func27 (by kernel_rfl) ?_
  repeat' ((conv => whnf); first
      | refine ldN_row (rl 8 s) (by rw [rl_len]; exact tc_all N s) (rl_len 8 s) ?_
      | refine loop_rule [14, 3] (fun vs M m => ∃ (i : Nat) (R : Own), vs = [.int .i64 i, R.val (4 * i)] ∧ i ≤ 8 ∧ R.ok 1 (4 * i) (ints (rowI s i)) ∧ m = 8 - i ∧ M = R.blk 3 (ints (rowI s i)) ++ [tB r N s]) rfl ?_ ?_)
  · exact fin_all ⟨_, 0, .nil, rfl, by omega, ⟨by rw [List.length_map, rowI_len], rfl⟩, rfl, rfl⟩
  rintro vs junk M' m ⟨i, R, rfl, hi, hR, rfl, rfl⟩
  have hL := rowI_len s i
  repeat' ((conv => whnf); first
      | refine draw_any 7 [(0, true), (1, true), (6, true), (2, true), (3, true), (4, true), (7, true), (5, false), (8, false), (9, false), (10, true)] _ rfl (by kernel_rfl) (kept1 (n := n) ?_)
      | refine kept1 ?_
      | refine fld1 ?_
      | refine fldN ?_
      | (have hw := hW i (by omega); unfold okS at hw; refine wr (fun z hz => ?_); rw [w64 (by omega) (by omega)] at hz; subst hz)
      | refine call_val (bits' _ _ _ _ _ _ _ _ _ _) ?_
      | (refine nv (fun z hz => ?_); (try simp at hz); replace hz := hz.symm; subst hz)
      | refine part_of' (l := rl 8 s) (q := i * 10) (m := 10) (r := sc (s i)) (rl_part (by omega)) rfl (by omega) ?_
      | refine app_at (S := R) (n := 4 * i) (e := 3) (xs := ints (rowI s i)) (news := [_, _, _, _]) rfl rfl rfl rfl rfl hR rfl (one4 rfl rfl rfl rfl) (by show (4 * i + 4) * 8 ≤ _; omega) (by omega) (Ev.cells_from rfl) (fun R' hR' => ?_)
      | refine nw (fun n => ?_)
      | refine bld ?_
      | refine st_lit rfl ?_
      | refine need (by first | rfl | omega) ?_
      | (refine ifs (fun h => ?_) (fun h => ?_) <;> (try (exfalso; first | omega | with_reducible contradiction | with_reducible exact h rfl))))
  all_goals (conv => whnf)
  · refine ⟨rfl, fin_drop (fin_drop (fin_all ⟨8 - (i + 1), by omega, i + 1, R', rfl, by omega, ?_, rfl, ?_⟩))⟩
    · rw [ints_next]; exact hR'
    · rw [ints_next]
  · obtain rfl : i = 8 := by omega
    rcases R with _ | ⟨g, cap, junk⟩
    · exfalso
      have := hR.2
      simp at this
    · have hrow := row 1 (rowI s 8) (Sl.at_ g 0 cap) trivial (by rw [hlen]; omega)
      rw [hlen, hre.1, hre.2] at hrow
      refine call_rowro hrow ⟨junk, rfl⟩ ?_
      repeat' ((conv => whnf); first
          | (refine call_val (pad _ 48 (by rw [Ev.str_size, List.length_map, hlen]; omega)) ?_; rw [hpad.1, hpad.2])
          | exact fin_look r ⟨rfl, rfl⟩)
end Go.Proofs.YtkjamonkohpcnaaGreat.Slots
/- The document's lists of slots. -/
namespace Go.Proofs.YtkjamonkohpcnaaGreat.Slots
open Go Ev Be
set_option linter.unusedVariables false
set_option linter.unusedSimpArgs false
set_option maxRecDepth 100000
/-- A list of n slots, at the head of a row. -/
abbrev lb (g n : Nat) (s : Nat → Sl10) (junk : List Value) : Blk := ⟨g, .row (rl n s ++ junk) 66⟩
abbrev lv (g n cap : Nat) : Value := .slice (some ⟨g, 0, none⟩) n cap
theorem ll_get {n i k : Nat} {s : Nat → Sl10} {junk : List Value} (hi : i < n) (hk : k < 10) : (rl n s ++ junk)[i * 10 + k]? = (sc (s i))[k]? := by
  rw [List.getElem?_append_left (by rw [rl_len]; omega), rl_get hi hk]
theorem ll_part {n i : Nat} {s : Nat → Sl10} {junk : List Value} (hi : i < n) : ((rl n s ++ junk).drop (i * 10)).take 10 = sc (s i) := by
  rw [List.drop_append_of_le_length (by rw [rl_len]; omega), List.take_append_of_le_length (by rw [List.length_drop, rl_len]; omega), rl_part hi]
attribute [local irreducible] rl tc bu biX rowI rowE rowS padE padS convert Builtin.copy_ Builtin.append_ Instr.makeSlice
theorem rfind (g n cap : Nat) (s : Nat → Sl10) (junk : List Value) (grp : Int) (hn : n ≤ 8) (k : Nat) (hk : IsF (fun j => (s j).g = grp ∧ 0 ≤ grp) n k) :
    Fnc Tryz.prog 64 [lv g n cap, .int .i64 grp] [lb g n s junk] (Ret (.int .i64 (if k < n then (k : Int) else -1)) [lb g n s junk]) := by
  have hkn := hk.1
  refine fn_intro Tryz.func64 (by kernel_rfl) ?_
  repeat' ((conv => whnf); first
      | refine loop_rule [5] (fun vs M m => ∃ i : Nat, vs = [.int .i64 i] ∧ i ≤ k ∧ m = n - i ∧ M = [lb g n s junk]) rfl ?_ ?_)
  · exact fin_all ⟨_, 0, rfl, by omega, rfl, rfl⟩
  rintro vs junk' M' m ⟨i, rfl, hi, rfl, rfl⟩
  repeat' ((conv => whnf); first
      | (refine nv (fun z hz => ?_); (try simp at hz); replace hz := hz.symm; subst hz)
      | refine ld1_row (v := .int .i64 (s i).g) (ll_get (k := 0) (by omega) (by omega)) ?_
      | refine need (by first | rfl | omega) ?_
      | (refine wr (fun z hz => ?_); (try rw [Int.tdiv_eq_ediv_of_nonneg (by omega)] at hz); rw [w64 (by omega) (by omega)] at hz; subst hz)
      | (refine ifs (fun h => ?_) (fun h => ?_) <;> (try (exfalso; first | omega | with_reducible contradiction | with_reducible exact h rfl))))
  all_goals (conv => whnf)
  · obtain rfl : k = i := isF_eq hk hi (by omega) ⟨by assumption, by assumption⟩
    rw [if_pos (by omega)]
    exact fin_all ⟨rfl, rfl⟩
  · exact ⟨rfl, fin_all ⟨n - (i + 1), by omega, i + 1, rfl, isF_ne hk hi (by omega) (fun hc => absurd hc.2 (by assumption)), rfl, rfl⟩⟩
  · exact ⟨rfl, fin_all ⟨n - (i + 1), by omega, i + 1, rfl, isF_ne hk hi (by omega) (fun hc => absurd hc.1 (by assumption)), rfl, rfl⟩⟩
  · rw [if_neg (by omega)]
    exact fin_all ⟨rfl, rfl⟩
instance Own_zip {M : List Blk} {g cap : Nat} {junk xs : List Value} {e : TypeId} : Zip ((Own.at_ g cap junk).blk e xs ++ M) g (.row (xs ++ junk) e) (fun b => b :: M) := ⟨⟨[], M, rfl, fun _ => rfl⟩⟩
theorem rbusy' (g lv : Int) (v0 v1 v2 v3 d0 d1 d2 d3 : Bool) : Fnc Tryz.prog 26 [.agg #[.int .i64 g, .bool v0, .bool v1, .bool v2, .bool v3, .bool d0, .bool d1, .bool d2, .bool d3, .int .i64 lv]] [] (Ret (.bool (d0 || d1 || d2 || d3)) []) := by
  refine fn_intro Tryz.func26 (by kernel_rfl) ?_
  cases d0 <;> cases d1 <;> cases d2 <;> cases d3
  all_goals repeat' ((conv => whnf); first
      | refine loop_n 5 ?_
      | (refine nv (fun z hz => ?_); (try simp at hz); replace hz := hz.symm; subst hz)
      | refine ld1_lit ?_
      | refine nw (fun n => ?_)
      | refine need (by first | rfl | omega) ?_
      | (refine wr (fun z hz => ?_); (try rw [Int.tdiv_eq_ediv_of_nonneg (by omega)] at hz); rw [w64 (by omega) (by omega)] at hz; subst hz)
      | (refine ifs (fun h => ?_) (fun h => ?_) <;> (try (exfalso; first | omega | with_reducible contradiction | with_reducible exact h rfl)))
      | refine fin_nil ⟨?_, rfl⟩)
  all_goals rfl
theorem rbusy (x : Sl10) : Fnc Tryz.prog 26 [.agg (sc x).toArray] [] (Ret (.bool (busyB x)) []) := rbusy' _ _ _ _ _ _ _ _ _ _
end Go.Proofs.YtkjamonkohpcnaaGreat.Slots
