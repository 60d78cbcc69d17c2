/- Texts of this proof, merged. -/
import Derived.Test.YtkjamonkohpcnaaGreatAk20
import Derived.Test.YtkjamonkohpcnaaGreatAk17
set_option linter.unusedVariables false
set_option linter.unusedSimpArgs false
set_option linter.unusedSectionVars false
set_option maxRecDepth 100000
set_option maxHeartbeats 16000000
namespace Go.Proofs.YtkjamonkohpcnaaGreat
namespace Cmt
open Go Ev Sha Aes Orc Node Rec Chn Jrn Cau Sto Srt Stg Wld
open Rig (Fnc_takeR RigP Rg rgM readR writeR flushR setRegR z64 app_of tick comes mayE RigA)
open Tree (TreP TreA Tre treM TI Same getS setS updB ShJ)
def wrN (r : RigP) (d : Int) : Nat → List ByteArray → RigP
 | _, [] => r
 | i, s :: t => wrN (wrF r d i s) d (i + 1) t
def wrK (r : RigP) (d : Int) : List (Int × ByteArray) → RigP
 | [] => r
 | p :: t => wrK (wrF r d p.1.toNat p.2) d t
def flN (r : RigP) : List Nat → RigP
 | [] => r
 | d :: t => flN (flF r d) t
theorem fine_wrK {d : Int} : ∀ (l : List (Int × ByteArray)) (r : RigP), Fine r → Fine (wrK r d l)
 | [], _, h => h
 | p :: t, r, h => fine_wrK t (wrF r d p.1.toNat p.2) (h.wrF _ _ _)
theorem lp_wrN {d : Int} (hd : d = 0 ∨ d = 1) (at_ : Nat) (L : List ByteArray) (hL : at_ + L.length ≤ 288) : ∀ (n i : Nat) (l : List ByteArray) (r : RigP), Fine r → L.drop i = l → l.length = n → i + n = L.length → (∀ s ∈ l, s.size = 64) → lp (wrL d at_ L) n i r = (wrN r d (at_ + i) l, 0)
 | 0, i, l, r, h, hl, hn, _, _ => by
   have : l = [] := List.length_eq_zero_iff.1 hn
   subst this; rfl
 | n + 1, i, [], r, h, hl, hn, _, _ => by cases hn
 | n + 1, i, s :: t, r, h, hl, hn, hi, hs => by
   have hg : L[i]? = some s := by
    have := congrArg (·[0]?) hl
    simpa using this
   have hw : wrL d at_ L i r = (wrF r d (at_ + i) s, 0) := by
    unfold wrL
    rw [hg]
    exact h.write hd (by omega) (hs s List.mem_cons_self)
   rw [lp_ok (by rw [hw]), hw]
   have hl' : L.drop (i + 1) = t := by rw [← List.drop_drop, hl]; rfl
   exact lp_wrN hd at_ L hL n (i + 1) t (wrF r d (at_ + i) s) (h.wrF _ _ _) hl' (by simpa using hn) (by omega) fun q hq => hs q (List.mem_cons_of_mem _ hq)
theorem wrA_N {r : RigP} (h : Fine r) {d : Int} (hd : d = 0 ∨ d = 1) {at_ : Nat} {l : List ByteArray} (hl : at_ + l.length ≤ 288) (hs : ∀ s ∈ l, s.size = 64) : wrA r d at_ l = (wrN r d at_ l, 0) :=
 lp_wrN hd at_ l hl l.length 0 l r h rfl rfl (by omega) hs
theorem lp_wrK {d : Int} (hd : d = 0 ∨ d = 1) (L : List (Int × ByteArray)) : ∀ (n i : Nat) (l : List (Int × ByteArray)) (r : RigP), Fine r → L.drop i = l → l.length = n → (∀ p ∈ l, 161 ≤ p.1 ∧ p.1 < 288 ∧ p.2.size = 64) → lp (hmS d L) n i r = (wrK r d l, 0)
 | 0, i, l, r, h, hL, hl, _ => by
   have : l = [] := List.length_eq_zero_iff.1 hl
   subst this; rfl
 | n + 1, i, [], r, h, hL, hl, _ => by cases hl
 | n + 1, i, p :: t, r, h, hL, hl, hk => by
   have hp := hk p List.mem_cons_self
   have hi : L[i]? = some p := by
    have := congrArg (·[0]?) hL
    simpa using this
   have hw : hmS d L i r = (wrF r d p.1.toNat p.2, 0) := by
    unfold hmS
    rw [hi]
    show writeR r d p.1 p.2 = _
    have := h.write hd (i := p.1.toNat) (s := p.2) (by omega) hp.2.2
    rw [show ((p.1.toNat : Nat) : Int) = p.1 by omega] at this
    exact this
   rw [lp_ok (by rw [hw]), hw]
   have hL' : L.drop (i + 1) = t := by rw [← List.drop_drop, hL]; rfl
   exact lp_wrK hd L n (i + 1) t (wrF r d p.1.toNat p.2) (h.wrF _ _ _) hL' (by simpa using hl) fun q hq => hk q (List.mem_cons_of_mem _ hq)
theorem hmG_K {r : RigP} (h : Fine r) {d : Int} (hd : d = 0 ∨ d = 1) {l : List (Int × ByteArray)} (hk : ∀ p ∈ l, 161 ≤ p.1 ∧ p.1 < 288 ∧ p.2.size = 64) : hmG r d l = (wrK r d (srt l), 0) := by
 unfold hmG
 have hp := srt_perm l
 exact lp_wrK hd (srt l) l.length 0 (srt l) r h rfl hp.length_eq fun p hm => hk p (hp.mem_iff.1 hm)
theorem lp_flN (L : List Nat) : ∀ (n i : Nat) (l : List Nat) (r : RigP), Fine r → L.drop i = l → l.length = n → (∀ d ∈ l, d ≤ 1) → lp (flG L) n i r = (flN r l, 0)
 | 0, i, l, r, h, hL, hl, _ => by
   have : l = [] := List.length_eq_zero_iff.1 hl
   subst this; rfl
 | n + 1, i, [], r, h, hL, hl, _ => by cases hl
 | n + 1, i, d :: t, r, h, hL, hl, hk => by
   have hd := hk d List.mem_cons_self
   have hi : L[i]? = some d := by
    have := congrArg (·[0]?) hL
    simpa using this
   have hw : flG L i r = (flF r d, 0) := by
    unfold flG
    rw [hi]
    exact flush_eq h (by show (d : Int) = 0 ∨ (d : Int) = 1; omega)
   rw [lp_ok (by rw [hw]), hw]
   have hL' : L.drop (i + 1) = t := by rw [← List.drop_drop, hL]; rfl
   exact lp_flN L n (i + 1) t (flF r d) (fine_fl h _) hL' (by simpa using hl) fun q hq => hk q (List.mem_cons_of_mem _ hq)
theorem flG_N {r : RigP} (h : Fine r) {l : List Nat} (hl : ∀ d ∈ l, d ≤ 1) : lp (flG l) l.length 0 r = (flN r l, 0) := lp_flN l l.length 0 l r h rfl rfl hl
def sf_ (r : RigP) (d : Int) (j : Nat) : ByteArray := ((r.dev d) j).safe
theorem sf_wr (r : RigP) (d d' : Int) (i j : Nat) (s : ByteArray) (hd : d = 0 ∨ d = 1) (hd' : d' = 0 ∨ d' = 1) : sf_ (wrF r d i s) d' j = sf_ r d' j := by
 unfold sf_ wrF
 rw [setDev_dev _ _ _ _ hd hd']
 by_cases h : d' = d
 · rw [if_pos h]
   subst h
   unfold Rig.writeD Rig.updD
   by_cases hj : j = i
   · rw [if_pos hj]; subst hj; rfl
   · rw [if_neg hj]; rfl
 · rw [if_neg h]; rfl
theorem sf_fl (r : RigP) (d d' : Int) (j : Nat) (hd : d = 0 ∨ d = 1) (hd' : d' = 0 ∨ d' = 1) : sf_ (flF r d) d' j = if d' = d then nw_ r d' j else sf_ r d' j := by
 unfold sf_ nw_ flF
 rw [setDev_dev _ _ _ _ hd hd']
 by_cases h : d' = d
 · rw [if_pos h, if_pos h]; subst h; rfl
 · rw [if_neg h, if_neg h]; rfl
theorem reg_sd (r : RigP) (d : Int) (x : Rig.DevC) : (r.setDev d x).reg = r.reg := by unfold Rig.RigP.setDev; split <;> rfl
theorem reg_wr (r : RigP) (d : Int) (i : Nat) (s : ByteArray) : (wrF r d i s).reg = r.reg := reg_sd _ _ _
theorem reg_wrK {d : Int} : ∀ (l : List (Int × ByteArray)) (r : RigP), (wrK r d l).reg = r.reg
 | [], _ => rfl
 | p :: t, r => (reg_wrK t (wrF r d p.1.toNat p.2)).trans (reg_wr _ _ _ _)
theorem nw_wrN {d : Int} (hd : d = 0 ∨ d = 1) {d' : Int} (hd' : d' = 0 ∨ d' = 1) (j : Nat) : ∀ (l : List ByteArray) (i : Nat) (r : RigP), nw_ (wrN r d i l) d' j = if d' = d ∧ i ≤ j ∧ j < i + l.length then (l[j - i]?).getD ByteArray.empty else nw_ r d' j
 | [], i, r => by rw [if_neg (by simp only [List.length_nil]; omega)]; rfl
 | s :: t, i, r => by
   show nw_ (wrN (wrF r d i s) d (i + 1) t) d' j = _
   rw [nw_wrN hd hd' j t (i + 1) (wrF r d i s), nw_wr r d d' i j s hd hd']
   by_cases h : d' = d ∧ i ≤ j ∧ j < i + (s :: t).length
   · rw [if_pos h]
     have h3 : j < i + (t.length + 1) := h.2.2
     by_cases hj : j = i
     · rw [if_neg (by omega), if_pos ⟨h.1, hj⟩, show j - i = 0 by omega]; rfl
     · rw [if_pos ⟨h.1, by omega, by omega⟩, show j - i = (j - (i + 1)) + 1 by omega]; rfl
   · rw [if_neg h]
     have h3 : ¬ (d' = d ∧ i ≤ j ∧ j < i + (t.length + 1)) := h
     rw [if_neg (fun k => h3 ⟨k.1, by omega, by omega⟩), if_neg (fun k => h3 ⟨k.1, by omega, by omega⟩)]
theorem sf_wrN {d : Int} (hd : d = 0 ∨ d = 1) {d' : Int} (hd' : d' = 0 ∨ d' = 1) (j : Nat) : ∀ (l : List ByteArray) (i : Nat) (r : RigP), sf_ (wrN r d i l) d' j = sf_ r d' j
 | [], i, r => rfl
 | s :: t, i, r => (sf_wrN hd hd' j t (i + 1) (wrF r d i s)).trans (sf_wr r d d' i j s hd hd')
theorem nw_wrK {d : Int} (hd : d = 0 ∨ d = 1) {d' : Int} (hd' : d' = 0 ∨ d' = 1) (j : Nat) : ∀ (l : List (Int × ByteArray)) (r : RigP), (∀ p ∈ l, 161 ≤ p.1) → nw_ (wrK r d l) d' j = nw_ r d' j ∨ (d' = d ∧ ∃ p ∈ l, p.1 = j ∧ nw_ (wrK r d l) d' j = p.2)
 | [], r, _ => .inl rfl
 | p :: t, r, h => by
   show nw_ (wrK (wrF r d p.1.toNat p.2) d t) d' j = _ ∨ _ ∧ ∃ q ∈ p :: t, q.1 = j ∧ nw_ (wrK (wrF r d p.1.toNat p.2) d t) d' j = q.2
   rcases nw_wrK hd hd' j t (wrF r d p.1.toNat p.2) (fun q hq => h q (List.mem_cons_of_mem _ hq)) with h1 | ⟨h1, q, h2, h3, h4⟩
   · rw [h1, nw_wr r d d' p.1.toNat j p.2 hd hd']
     have hp := h p List.mem_cons_self
     by_cases hj : d' = d ∧ j = p.1.toNat
     · rw [if_pos hj]; exact .inr ⟨hj.1, p, List.mem_cons_self, by omega, rfl⟩
     · rw [if_neg hj]; exact .inl rfl
   · exact .inr ⟨h1, q, List.mem_cons_of_mem _ h2, h3, h4⟩
theorem sf_wrK {d : Int} (hd : d = 0 ∨ d = 1) {d' : Int} (hd' : d' = 0 ∨ d' = 1) (j : Nat) : ∀ (l : List (Int × ByteArray)) (r : RigP), sf_ (wrK r d l) d' j = sf_ r d' j
 | [], r => rfl
 | p :: t, r => (sf_wrK hd hd' j t (wrF r d p.1.toNat p.2)).trans (sf_wr r d d' _ j _ hd hd')
structure Rc where
 seq : Int
 root : Dg
 l : List (Int × ByteArray)
def Rc.bs (x : Rc) : List ByteArray := recLs x.seq x.root x.l
noncomputable def jadd_ (J : JrP) (x : Rc) : JrP := addJs J x.seq x.root x.bs
def blks (R : List Rc) : List ByteArray := (R.map Rc.bs).flatten
def ovl (l : List (Int × ByteArray)) (C : Nat → ByteArray) : Nat → ByteArray := fun j => (getS l j).getD (C j)
def rpl : List Rc → (Nat → ByteArray) → Nat → ByteArray
 | [], C => C
 | x :: t, C => rpl t (ovl x.l C)
theorem ovl_nil (C : Nat → ByteArray) : ovl [] C = C := rfl
theorem rpl_app (x : Rc) : ∀ (R : List Rc) (C : Nat → ByteArray), rpl (R ++ [x]) C = ovl x.l (rpl R C)
 | [], C => rfl
 | y :: t, C => rpl_app x t (ovl y.l C)
theorem rpl_pt {j : Nat} : ∀ (R : List Rc) {C C' : Nat → ByteArray}, C j = C' j → rpl R C j = rpl R C' j
 | [], _, _, h => h
 | x :: t, C, C', h => rpl_pt t (by unfold ovl; rw [h])
theorem rpl_fix {j : Nat} {s : ByteArray} : ∀ (R : List Rc) {C C' : Nat → ByteArray}, rpl R C j = s → C' j = s → rpl R C' j = s
 | [], _, _, _, h => h
 | x :: t, C, C', h, h' => by
   show rpl t (ovl x.l C') j = s
   cases e : getS x.l j with
   | some u =>
     have : ovl x.l C' j = ovl x.l C j := by unfold ovl; rw [e]; rfl
     rw [rpl_pt t this]; exact h
   | none =>
     refine rpl_fix t (C := ovl x.l C) h ?_
     unfold ovl; rw [e]; exact h'
def sqs : Int → List Rc → Prop
 | _, [] => True
 | s, x :: t => x.seq = s + 1 ∧ sqs x.seq t
theorem sqs_app {x : Rc} : ∀ {t : List Rc} {J : JrP}, sqs J.seq t → x.seq = (t.foldl jadd_ J).seq + 1 → sqs J.seq (t ++ [x])
 | [], J, _, h => ⟨h, trivial⟩
 | y :: t, J, h, h' => ⟨h.1, sqs_app (t := t) (J := jadd_ J y) h.2 h'⟩
theorem blks_app (R : List Rc) (x : Rc) : blks (R ++ [x]) = blks R ++ x.bs := by unfold blks; simp
theorem fold_used : ∀ (R : List Rc) (J : JrP), (R.foldl jadd_ J).used = J.used + (blks R).length
 | [], J => rfl
 | x :: t, J => by
   show (t.foldl jadd_ (jadd_ J x)).used = _
   rw [fold_used t (jadd_ J x)]
   show J.used + x.bs.length + (blks t).length = J.used + (blks (x :: t)).length
   unfold blks
   rw [List.map_cons, List.flatten_cons, List.length_append]; omega
structure DR (r : RigP) (J : JrP) (d : Nat) (super : ByteArray) (R : List Rc) (C : Nat → ByteArray) : Prop where
 eq : J = R.foldl jadd_ (jr0 super d J.area (D (startS super d J.area)))
 hd : ∃ b t, R = b :: t ∧ b.l = [] ∧ sqs b.seq t
 ok : ∀ x ∈ R, chkE x.seq x.l = 0
 jb : ∀ i, i < (blks R).length → nw_ r d (1 + 80 * J.area + i) = ((blks R)[i]?).getD ByteArray.empty ∧ sf_ r d (1 + 80 * J.area + i) = ((blks R)[i]?).getD ByteArray.empty
 hm : ∀ j, 161 ≤ j → j < 288 → rpl R (nw_ r d) j = C j ∧ rpl R (sf_ r d) j = C j
section
variable {r r' : RigP} {J : JrP} {d : Nat} {super : ByteArray} {R : List Rc} {C : Nat → ByteArray}
theorem DR.used (h : DR r J d super R C) : J.used = (blks R).length := by
 have e := h.eq
 have : J.used = (R.foldl jadd_ (jr0 super d J.area (D (startS super d J.area)))).used := congrArg JrP.used e
 rw [this, fold_used]; exact Nat.zero_add _
theorem DR.step (h : DR r J d super R C) (hj : ∀ k, 1 + 80 * J.area ≤ k → k < 1 + 80 * J.area + J.used → nw_ r' d k = nw_ r d k ∧ (sf_ r' d k = sf_ r d k ∨ sf_ r' d k = nw_ r d k))
 (hh : ∀ j, 161 ≤ j → j < 288 → (nw_ r' d j = nw_ r d j ∨ nw_ r' d j = C j) ∧ (sf_ r' d j = sf_ r d j ∨ sf_ r' d j = nw_ r d j)) : DR r' J d super R C := by
 have hu := h.used
 refine ⟨h.eq, h.hd, h.ok, fun i hi => ?_, fun j h1 h2 => ?_⟩
 · have k := hj (1 + 80 * J.area + i) (by omega) (by omega)
   have g := h.jb i hi
   refine ⟨k.1.trans g.1, ?_⟩
   rcases k.2 with e | e
   · rw [e]; exact g.2
   · rw [e]; exact g.1
 · have k := hh j h1 h2
   have g := h.hm j h1 h2
   refine ⟨?_, ?_⟩
   · rcases k.1 with e | e
     · rw [rpl_pt R e]; exact g.1
     · exact rpl_fix R g.1 e
   · rcases k.2 with e | e
     · rw [rpl_pt R e]; exact g.2
     · rw [rpl_pt R (C' := nw_ r d) e]; exact g.1
theorem DR.same (h : DR r J d super R C) (hn : ∀ k, nw_ r' d k = nw_ r d k) (hs : ∀ k, sf_ r' d k = sf_ r d k) : DR r' J d super R C :=
 h.step (fun k _ _ => ⟨hn k, .inl (hs k)⟩) fun j _ _ => ⟨.inl (hn j), .inl (hs j)⟩
theorem DR.fl (h : DR r J d super R C) (hd : d ≤ 1) {d' : Int} (hd' : d' = 0 ∨ d' = 1) : DR (flF r d') J d super R C := by
 have hn := fun k => nw_fl r d' (d : Int) k hd' (by omega)
 have hs : ∀ k, sf_ (flF r d') d k = sf_ r d k ∨ sf_ (flF r d') d k = nw_ r d k := fun k => by
  rw [sf_fl r d' (d : Int) k hd' (by omega)]
  by_cases e : (d : Int) = d'
  · rw [if_pos e]; exact .inr rfl
  · rw [if_neg e]; exact .inl rfl
 exact h.step (fun k _ _ => ⟨hn k, hs k⟩) fun j _ _ => ⟨.inl (hn j), hs j⟩
theorem DR.sr (h : DR r J d super R C) (s : ByteArray) : DR (srF r s) J d super R C := h.same (fun _ => rfl) fun _ => rfl
theorem DR.wrO (h : DR r J d super R C) (hd : d ≤ 1) {d' : Int} (hd' : d' = 0 ∨ d' = 1) (hne : (d : Int) ≠ d') (l : List ByteArray) (i : Nat) : DR (wrN r d' i l) J d super R C :=
 h.same (fun k => by rw [nw_wrN hd' (by omega) k l i r, if_neg (fun g => hne g.1)]) fun k => sf_wrN hd' (by omega) k l i r
theorem DR.wr (h : DR r J d super R C) (hd : d ≤ 1) {d' : Int} (hd' : d' = 0 ∨ d' = 1) {l : List ByteArray} {i : Nat} (hi : i + l.length ≤ 161) (ho : (d : Int) = d' → i + l.length ≤ 1 + 80 * J.area ∨ 1 + 80 * J.area + J.used ≤ i) : DR (wrN r d' i l) J d super R C := by
 refine h.step (fun k h1 h2 => ⟨?_, .inl (sf_wrN hd' (by omega) k l i r)⟩) fun j h1 h2 => ⟨.inl ?_, .inl (sf_wrN hd' (by omega) j l i r)⟩
 · rw [nw_wrN hd' (by omega) k l i r, if_neg (fun g => by have := ho g.1; omega)]
 · rw [nw_wrN hd' (by omega) j l i r, if_neg (by omega)]
theorem DR.hmS (h : DR r J d super R C) (hd : d ≤ 1) {d' : Int} (hd' : d' = 0 ∨ d' = 1) {l : List (Int × ByteArray)} (hl : ∀ p ∈ l, 161 ≤ p.1) (hc : (d : Int) = d' → ∀ p ∈ l, ∀ j : Nat, p.1 = j → p.2 = C j) (hu : J.used ≤ 80) (ha : J.area ≤ 1) : DR (wrK r d' l) J d super R C := by
 refine h.step (fun k h1 h2 => ⟨?_, .inl (sf_wrK hd' (by omega) k l r)⟩) fun j h1 h2 => ⟨?_, .inl (sf_wrK hd' (by omega) j l r)⟩
 · rcases nw_wrK hd' (d' := (d : Int)) (by omega) k l r hl with e | ⟨_, p, hp, e, _⟩
   · exact e
   · have := hl p hp; omega
 · rcases nw_wrK hd' (d' := (d : Int)) (by omega) j l r hl with e | ⟨e0, p, hp, e, e2⟩
   · exact .inl e
   · exact .inr (e2.trans (hc e0 p hp j e))
theorem DR.app (h : DR r J d super R C) {x : Rc} (hx : chkE x.seq x.l = 0) (hs : x.seq = J.seq + 1) (hp : ∀ i, i < x.bs.length → nw_ r d (1 + 80 * J.area + J.used + i) = (x.bs[i]?).getD ByteArray.empty ∧ sf_ r d (1 + 80 * J.area + J.used + i) = (x.bs[i]?).getD ByteArray.empty) :
 DR r (jadd_ J x) d super (R ++ [x]) (ovl x.l C) := by
 obtain ⟨b, t, e1, e2, e3⟩ := h.hd
 have hu := h.used
 refine ⟨?_, ⟨b, t ++ [x], by rw [e1]; rfl, e2, ?_⟩, fun y hy => ?_, fun i hi => ?_, fun j h1 h2 => ?_⟩
 · show jadd_ J x = (R ++ [x]).foldl jadd_ (jr0 super d J.area (D (startS super d J.area)))
   rw [List.foldl_append, ← h.eq]; rfl
 · have hj : J = t.foldl jadd_ (jadd_ (jr0 super d J.area (D (startS super d J.area))) b) := by
    have := h.eq; rw [e1] at this; exact this
   have := sqs_app (x := x) (t := t) (J := jadd_ (jr0 super d J.area (D (startS super d J.area))) b) e3 (by rw [← hj]; exact hs)
   exact this
 · rcases List.mem_append.1 hy with g | g
   · exact h.ok y g
   · rw [List.mem_singleton.1 g]; exact hx
 · show nw_ r d (1 + 80 * J.area + i) = _ ∧ sf_ r d (1 + 80 * J.area + i) = _
   rw [blks_app] at hi ⊢
   rw [List.length_append] at hi
   by_cases hi' : i < (blks R).length
   · rw [List.getElem?_append_left hi']; exact h.jb i hi'
   · rw [List.getElem?_append_right (by omega)]
     have := hp (i - (blks R).length) (by omega)
     rw [show 1 + 80 * J.area + J.used + (i - (blks R).length) = 1 + 80 * J.area + i by omega] at this
     exact this
 · have g := h.hm j h1 h2
   rw [rpl_app, rpl_app]
   unfold ovl
   rw [g.1, g.2]
   exact ⟨rfl, rfl⟩
theorem DR.appF (h : DR r J d super R C) (hd : d ≤ 1) {x : Rc} (hx : chkE x.seq x.l = 0) (hs : x.seq = J.seq + 1) (hp : ∀ i, i < x.bs.length → nw_ r d (1 + 80 * J.area + J.used + i) = (x.bs[i]?).getD ByteArray.empty) : DR (flF r d) (jadd_ J x) d super (R ++ [x]) (ovl x.l C) := by
 refine (h.fl hd (d' := d) (by omega)).app hx hs fun i hi => ?_
 rw [nw_fl r d d _ (by omega) (by omega), sf_fl r d d _ (by omega) (by omega), if_pos rfl]
 exact ⟨hp i hi, hp i hi⟩
theorem dr_beg {area : Nat} {seq : Int} {root : Dg} (hq : seqOk seq) (hb : nw_ r d (1 + 80 * area) = recB seq root ∧ sf_ r d (1 + 80 * area) = recB seq root) (hh : ∀ j, 161 ≤ j → j < 288 → nw_ r d j = C j ∧ sf_ r d j = C j) : DR r (begJ super d area seq root) d super [⟨seq, root, []⟩] C := by
 have e : recLs seq root [] = [recB seq root] := rfl
 have e2 : blks [⟨seq, root, []⟩] = [recB seq root] := by
  show (recLs seq root [] ++ [] : List ByteArray) = _
  rw [List.append_nil]; exact e
 have e3 : begJ super d area seq root = jadd_ (jr0 super d area (D (startS super d area))) ⟨seq, root, []⟩ := by
  show addJs _ seq root [recB seq root] = addJs _ seq root (recLs seq root [])
  rw [e]
 refine ⟨e3, ⟨_, [], rfl, rfl, trivial⟩, fun x hx => ?_, fun i hi => ?_, fun j h1 h2 => hh j h1 h2⟩
 · rw [List.mem_singleton.1 hx]
   show chkE seq [] = 0
   unfold chkE
   rw [if_neg (by simp), if_neg (fun hn => hn hq), if_pos (chk_nil 160)]
 · rw [e2] at hi ⊢
   have : i = 0 := by simp only [List.length_singleton] at hi; omega
   subst this
   exact hb
end
theorem ovl_srt {l : List (Int × ByteArray)} (hn : (l.map (·.1)).Nodup) (C : Nat → ByteArray) : ovl (srt l) C = ovl l C := by
 funext j
 unfold ovl
 rw [getS_perm (srt_perm l) (((srt_perm l).map (·.1)).nodup_iff.2 hn) j]
theorem ovl_in {l : List (Int × ByteArray)} (hn : (l.map (·.1)).Nodup) (C : Nat → ByteArray) {p : Int × ByteArray} (hp : p ∈ l) {j : Nat} (hj : p.1 = j) : p.2 = ovl l C j := by
 unfold ovl
 rw [← hj, (getS_mem hn (k := p.1) (s := p.2)).2 hp]
 rfl
structure SP (r : RigP) (super : ByteArray) : Prop where
 n : nw_ r 0 0 = super
 s : sf_ r 0 0 = super
 n1 : (nw_ r 1 0).size = 64
 s1 : (sf_ r 1 0).size = 64
section
variable {r : RigP} {super : ByteArray}
theorem SP.fl (h : SP r super) {d : Int} (hd : d = 0 ∨ d = 1) : SP (flF r d) super := by
 refine ⟨(nw_fl r d 0 0 hd (.inl rfl)).trans h.n, ?_, by rw [nw_fl r d 1 0 hd (.inr rfl)]; exact h.n1, ?_⟩
 · rw [sf_fl r d 0 0 hd (.inl rfl)]
   split
   · exact h.n
   · exact h.s
 · rw [sf_fl r d 1 0 hd (.inr rfl)]
   split
   · exact h.n1
   · exact h.s1
theorem SP.sr (h : SP r super) (s : ByteArray) : SP (srF r s) super := ⟨h.n, h.s, h.n1, h.s1⟩
theorem SP.wr (h : SP r super) {d : Int} (hd : d = 0 ∨ d = 1) {i : Nat} (hi : 1 ≤ i) (l : List ByteArray) : SP (wrN r d i l) super :=
 ⟨by rw [nw_wrN hd (.inl rfl) 0 l i r, if_neg (by omega)]; exact h.n, (sf_wrN hd (.inl rfl) 0 l i r).trans h.s, by rw [nw_wrN hd (.inr rfl) 0 l i r, if_neg (by omega)]; exact h.n1, by rw [sf_wrN hd (.inr rfl) 0 l i r]; exact h.s1⟩
theorem SP.hm (h : SP r super) {d : Int} (hd : d = 0 ∨ d = 1) {l : List (Int × ByteArray)} (hl : ∀ p ∈ l, 161 ≤ p.1) : SP (wrK r d l) super := by
 refine ⟨?_, (sf_wrK hd (.inl rfl) 0 l r).trans h.s, ?_, by rw [sf_wrK hd (.inr rfl) 0 l r]; exact h.s1⟩
 · rcases nw_wrK hd (d' := 0) (.inl rfl) 0 l r hl with e | ⟨_, p, hp, e, _⟩
   · exact e.trans h.n
   · have := hl p hp; omega
 · rcases nw_wrK hd (d' := 1) (.inr rfl) 0 l r hl with e | ⟨_, p, hp, e, _⟩
   · rw [e]; exact h.n1
   · have := hl p hp; omega
end
end Cmt
namespace Rec
open Go Ev Sha Aes Orc Node Srt Stg Chn
open Cmt (Rc blks)
abbrev RS := Rc × Own
def rvC (y : RS) : List Value := rcP y.1.seq y.1.root (y.2.val y.1.l.length)
def rowR (L : List RS) : List Value := (L.map rvC).flatten
def putM (y : RS) : List Blk := y.2.blk 117 (flatV y.1.l)
def putsM (L : List RS) : List Blk := (L.map putM).flatten
structure OkR (y : RS) : Prop where
 ok : y.2.ok 2 y.1.l.length (flatV y.1.l)
 nl : y.1.l = [] → y.2 = .nil
theorem rvC_len (y : RS) : (rvC y).length = 34 := rcP_len
theorem rvC_one (y : RS) : ∀ u ∈ rvC y, u.oneCell' = true := rcP_one _ _ _ _ _
theorem rowR_app (L : List RS) (y : RS) : rowR (L ++ [y]) = rowR L ++ rvC y := by unfold rowR; simp
theorem putsM_app (L : List RS) (y : RS) : putsM (L ++ [y]) = putsM L ++ putM y := by unfold putsM; simp
theorem rowR_lens (L : List RS) : ∀ x ∈ L.map rvC, x.length = 34 := by
 intro x hx; obtain ⟨a, _, rfl⟩ := List.mem_map.1 hx; exact rvC_len a
theorem rowR_len (L : List RS) : (rowR L).length = L.length * 34 := by
 induction L with
 | nil => rfl
 | cons a t ih =>
   have e : rowR (a :: t) = rvC a ++ rowR t := rfl
   rw [e, List.length_append, rvC_len, ih, List.length_cons]; omega
theorem blks_cons (x : Rc) (t : List Rc) : blks (x :: t) = x.bs ++ blks t := rfl
theorem blks_append : ∀ (A B : List Rc), blks (A ++ B) = blks A ++ blks B := fun A B => by unfold blks; simp
theorem strV_app (a b : List ByteArray) : strV (a ++ b) = strV a ++ strV b := by unfold strV; simp
theorem strV_mid {cs : List Value} {off : Nat} {A B C : List ByteArray} (h : (cs.drop off).take (A ++ (B ++ C)).length = strV (A ++ (B ++ C))) : (cs.drop (off + A.length)).take B.length = strV B := by
 have h1 := congrArg (fun l => (l.drop A.length).take B.length) h
 simp only [strV_app] at h1
 have e1 : ((strV A ++ (strV B ++ strV C)).drop A.length).take B.length = strV B := by
  rw [List.drop_append_of_le_length (by rw [strV_len]; omega), List.drop_of_length_le (by rw [strV_len]; omega), List.nil_append, List.take_append_of_le_length (by rw [strV_len]; omega), List.take_of_length_le (by rw [strV_len]; omega)]
 rw [e1] at h1
 rw [← h1, List.drop_take, List.take_take, List.drop_drop]
 congr 1
 rw [List.length_append, List.length_append]
 omega
theorem bs_pos (x : Rc) : 1 ≤ x.bs.length := by
 have := recLs_len x.seq x.root x.l
 show 1 ≤ (recLs x.seq x.root x.l).length
 omega
theorem blks_ge : ∀ (R : List Rc), R.length ≤ (blks R).length
 | [] => Nat.le_refl 0
 | x :: t => by
   have := blks_ge t
   have h1 := bs_pos x
   rw [blks_cons, List.length_append, List.length_cons]; omega
theorem blks_nil : blks [] = [] := rfl
theorem rowR_nil : rowR [] = [] := rfl
theorem putsM_nil : putsM [] = [] := rfl
theorem nil34 : Own.ok .nil 34 0 (rowR []) := ⟨rfl, rfl⟩
attribute [local irreducible] dgV rcP convert Builtin.copy_ Builtin.append_ Instr.makeSlice flatV recN recLs rowR putsM blks
theorem rall (bk off cp : Nat) (cs : List Value) (R : List Rc) (hok : ∀ x ∈ R, chkE x.seq x.l = 0) (hcs : (cs.drop off).take (blks R).length = strV (blks R)) (hlc : (blks R).length ≤ cp) (hb : (blks R).length ≤ 10000) :
 Fnc Tryz.prog 237 [.slice (some ⟨bk, off, none⟩) (blks R).length cp] [⟨bk, .row cs 9⟩]
  (fun e A => ∃ (L : List RS) (O : Own), L.map (·.1) = R ∧ (∀ y ∈ L, OkR y) ∧ O.ok 34 L.length (rowR L) ∧ e = .returned (.tuple #[O.val L.length, .int .i64 0]) ∧ A = O.blk 191 (rowR L) ++ (putsM L ++ [⟨bk, .row cs 9⟩])) := by
 have hpar := fun (q len c : Nat) (x : Rc) (hck : chkE x.seq x.l = 0) (h1 : (cs.drop q).take x.bs.length = strV x.bs) (h2 : x.bs.length ≤ len) (h3 : len ≤ c) (h4 : len ≤ 10000) => rparse bk q len c cs x.seq x.root x.l hck h1 h2 h3 (by omega)
 refine fn_intro Tryz.func237 (by kernel_rfl) ?_
 repeat' ((conv => whnf); first
  | fail)
 all_goals (conv => whnf)
 refine loop_rule [0, 4] (fun vs M m => ∃ (R1 R2 : List Rc) (L : List RS) (O : Own) (q : Nat), R = R1 ++ R2 ∧ L.map (·.1) = R1 ∧ (∀ y ∈ L, OkR y) ∧ O.ok 34 L.length (rowR L) ∧ vs = [.slice (some ⟨bk, q, none⟩) (blks R2).length (cp - (blks R1).length), O.val L.length] ∧ (1 ≤ (blks R2).length → q = off + (blks R1).length) ∧ m = R2.length ∧
  M = ⟨bk, .row cs 9⟩ :: (putsM L ++ O.blk 191 (rowR L))) rfl ?_ ?_
 · exact fin_g (A := [⟨bk, _⟩]) (.blk takeC .nil) ⟨_, [], R, [], .nil, off, rfl, rfl, fun y hy => (by cases hy), nil34, by rw [blks_nil]; rfl, fun _ => by rw [blks_nil]; rfl, rfl, by rw [putsM_nil, rowR_nil]; rfl⟩
 rintro vs junk M' m ⟨R1, R2, L, O, q, hR, hL, hOk, hO, rfl, hq, rfl, rfl⟩
 have hLn : L.length = R1.length := by rw [← hL, List.length_map]
 have hge := blks_ge R1
 have hbl : (blks R).length = (blks R1).length + (blks R2).length := by rw [hR, blks_append, List.length_append]
 cases R2 with
 | nil =>
   rw [blks_nil]
   repeat' ((conv => whnf); first
    | (refine ifs (fun h => ?_) (fun h => ?_) <;> try (exfalso; first | omega | with_reducible first | contradiction | exact h rfl)))
   all_goals (conv => whnf)
   all_goals exact fin_g (A := O.blk 191 (rowR L) ++ (putsM L ++ [⟨bk, _⟩])) (.grp takeE (.grp takeE (.blk takeC .nil))) ⟨L, O, by rw [hL, hR, List.append_nil], hOk, hO, rfl, rfl⟩
 | cons x t =>
   have hx := hok x (by rw [hR]; exact List.mem_append_right _ List.mem_cons_self)
   have hp1 := bs_pos x
   have hbc : (blks (x :: t)).length = x.bs.length + (blks t).length := by rw [blks_cons, List.length_append]
   have hqe := hq (by omega)
   have hrl : (recLs x.seq x.root x.l).length = x.bs.length := rfl
   have hb1 : (blks (R1 ++ [x])).length = (blks R1).length + x.bs.length := by rw [blks_append, List.length_append, blks_cons, blks_nil, List.append_nil]
   have hcut : (cs.drop q).take x.bs.length = strV x.bs := by
    rw [hqe]
    rw [hR, blks_append, blks_cons] at hcs
    exact strV_mid hcs
   have hpx := hpar q (blks (x :: t)).length (cp - (blks R1).length) x hx hcut (by omega) (by omega) (by omega)
   repeat' ((conv => whnf); first
    | (refine call_g hpx (.blk takeC .nil) (fun e A' hq' => ?_); obtain ⟨S, q1, q2, q3, q4⟩ := hq'; subst q3; subst q4) | refine nw_row (cs' := rcP 0 zD (.slice none 0 0)) rcP_z0 (fun xn => ?_) | refine nw_row (cs' := rvC (x, S)) rfl (fun n => ?_) | refine force_of ?_ | (refine need ?_ ?_; exact rcP_len) | refine st_whole (n := xn) (rcP_one _ _ _ _ _) (by rw [rcP_len, rcP_len]) ?_ | refine ldN_whole rcP_len ?_ | (refine bld_cons (vs := rvC (x, S)) (cs1 := rvC (x, S)) rfl rfl rcP_len (by decide) (List.append_nil _) ?_; refine bld_nil ?_) | refine app_wide (S := O) (n := L.length) (m := 1) (sz := 34) (e := 191) (xs := rowR L) (news := rvC (x, S)) rfl rfl rfl rfl rfl hO rcP_len (by omega) (rvC_one _) (by show (L.length + 1) * 64 ≤ _; omega) (by omega) (cells_row (by simp)) (fun O' hO' => ?_) | (refine nv (fun q' hq' => ?_); refine nv_eq (a := (blks t).length) (by omega) ?_; refine nv_eq (a := cp - (blks (R1 ++ [x])).length) (by omega) ?_) | refine need (by first | rfl | omega) ?_ | (refine ifs (fun h => ?_) (fun h => ?_) <;> try (exfalso; first | omega | with_reducible first | contradiction | exact h rfl)))
   all_goals (conv => whnf)
   have hq2 : 1 ≤ (blks t).length → q' = off + (blks (R1 ++ [x])).length := fun h => by rw [hq', if_neg (by omega)]; omega
   have hLx : (L ++ [(x, S)]).length = L.length + 1 := by rw [List.length_append]; rfl
   refine ⟨rfl, fin_g (A := ⟨bk, _⟩ :: (putsM L ++ (S.blk 117 (flatV x.l) ++ O'.blk 191 (rowR L ++ rvC (x, S))))) (.blk takeC (.grp takeE (.grp takeE (.one takeE)))) ⟨t.length, by rw [List.length_cons]; omega, R1 ++ [x], t, L ++ [(x, S)], O', q', by rw [hR, List.append_assoc]; rfl, by rw [List.map_append, hL]; rfl, fun y hy => ?_, by rw [rowR_app, hLx]; exact hO', by rw [hLx], hq2, rfl, ?_⟩⟩
   · rcases List.mem_append.1 hy with h1 | h1
     · exact hOk y h1
     · rw [List.mem_singleton.1 h1]; exact ⟨q1, q2⟩
   · rw [putsM_app, rowR_app, List.append_assoc]; rfl
end Rec
namespace Cmt
open Go Ev Sha Aes Orc Node Rec Chn Jrn Cau Sto Srt Stg Wld
open Rig (Fnc_takeR RigP Rg rgM readR writeR flushR setRegR z64 app_of tick comes mayE RigA)
open Tree (TreP TreA Tre treM TI Same getS setS updB ShJ)
theorem setG_F {r : RigP} (h : Fine r) {y : RgV} (hy : y.ok) : setG r y = (srF r y.lay, 0) := by
 unfold setG; rw [if_pos hy]
 unfold setRegR; rw [if_neg (by simp [lay_size]), h.tick]; rfl
theorem ste_set {r : RigP} (h : Fine r) {y : RgV} (hy : y.ok) : Ste r (setG r y) := by
 rw [setG_F h hy]
 exact ⟨rfl, fine_sr h _, fun d' _ j _ => nw_sr r y.lay d' j⟩
structure JI (J : JrP) (d : Nat) (super : ByteArray) (N : Int) : Prop where
 d : J.d = d
 area : J.area ≤ 1
 used : 1 ≤ J.used ∧ J.used ≤ 80
 sq : 0 ≤ J.seq ∧ J.seq ≤ N
 sup : J.super = super
structure ShI (l : List (Int × ByteArray)) : Prop where
 un : (l.map (·.1)).Nodup
 ok : ∀ p ∈ l, 161 ≤ p.1 ∧ p.1 < 288 ∧ p.2.size = 64
theorem chk_of : ∀ {last : Int} {l : List (Int × ByteArray)}, (∀ p ∈ l, last < p.1 ∧ p.1 < 288 ∧ p.2.size = 64) → l.Pairwise (fun x y => x.1 < y.1) → chk last l = true
 | _, [], _, _ => rfl
 | last, p :: t, h, hp => by
   rw [chk_cons, Bool.and_eq_true]
   have hp' := List.pairwise_cons.1 hp
   exact ⟨decide_eq_true (h p List.mem_cons_self), chk_of (fun q hq => ⟨hp'.1 q hq, (h q (List.mem_cons_of_mem _ hq)).2⟩) hp'.2⟩
theorem srt_lt {l : List (Int × ByteArray)} (hn : (l.map (·.1)).Nodup) : (srt l).Pairwise (fun x y => x.1 < y.1) := by
 have h1 := srt_pair l
 have h2 : ((srt l).map (·.1)).Nodup := ((srt_perm l).map (·.1)).nodup_iff.2 hn
 have h3 : (srt l).Pairwise (fun x y => x.1 ≠ y.1) := List.pairwise_map.1 h2
 exact (h1.and h3).imp fun ⟨a, b⟩ => by omega
theorem chkE_of {l : List (Int × ByteArray)} (h : ShI l) (hl : l.length ≤ 64) {seq : Int} (hs : seqOk seq) : chkE seq (srt l) = 0 := by
 unfold chkE
 rw [if_neg (by rw [srt_len]; omega), if_neg (fun hn => hn hs), if_pos]
 refine chk_of (fun p hp => ?_) (srt_lt h.un)
 have := h.ok p ((srt_perm l).mem_iff.1 hp)
 omega
structure RJ (y : RgV) (J0 J1 : JrP) : Prop where
 a0 : y.a0 = J0.anchor
 r0 : y.ar0 = J0.area
 u0 : y.u0 = J0.used
 a1 : y.a1 = J1.anchor
 r1 : y.ar1 = J1.area
 u1 : y.u1 = J1.used
theorem an0_ok {y : RgV} (h : y.ok) (a : Dg) {u : Nat} (hu : u ≤ 80) : (RgV.an y 0 a u).ok := by
 unfold RgV.ok at h ⊢
 show Reg.RR y.a1 y.ep y.iv y.ar0 y.ar1 (u : Int) y.u1 y.dirty y.mode y.at_
 exact { h with u00 := by omega, u01 := by omega }
theorem an1_ok {y : RgV} (h : y.ok) (hat : y.at_ = true) (a : Dg) {u : Nat} (hu : u ≤ 80) : (RgV.an y 1 a u).ok := by
 unfold RgV.ok at h ⊢
 show Reg.RR a y.ep y.iv y.ar0 y.ar1 y.u0 (u : Int) y.dirty y.mode y.at_
 rw [hat] at h ⊢
 exact { h with u10 := by omega, u11 := by omega, at2 := (fun hh => nomatch hh), at3 := (fun hh => nomatch hh), at4 := (fun hh => nomatch hh) }
structure ApF (J : JrP) (root : Dg) (l : List (Int × ByteArray)) (s : Rt) : Prop where
 e : (appJ J root l s).2 = 0
 st : Ste s.r ((appJ J root l s).1.r, 0)
 ts : (appJ J root l s).1.ts.length ≤ s.ts.length + 1
 r : (appJ J root l s).1.r = wrN s.r J.d (1 + 80 * J.area + J.used) (recLs (J.seq + 1) root l)
theorem app_fine {J : JrP} {root : Dg} {l : List (Int × ByteArray)} {s : Rt} {d : Nat} {super : ByteArray} {N : Int} (h : Fine s.r) (hJ : JI J d super N) (hd : d ≤ 1) (hN : N + 1 ≤ 4294967295) (hs : ShI l) (hl : l.length ≤ 64) (hr : roomJ J l.length = true) : ApF J root (srt l) s := by
 have hck := chkE_of (seq := J.seq + 1) hs hl (by have := hJ.sq; unfold seqOk; omega)
 have hrm := of_decide_eq_true hr
 have hlen := recLs_len (J.seq + 1) root (srt l)
 have hsl := srt_len l
 have hrl : rlen l.length = 1 + (l.length + 31) / 32 + l.length := by unfold rlen; rw [if_neg (by omega)]
 have ha := hJ.area
 have hw := ste_wrA (r := s.r) h (d := J.d) (by rw [hJ.d]; omega) (at_ := 1 + 80 * J.area + J.used) (l := recLs (J.seq + 1) root (srt l)) (by rw [hlen, hsl]; omega) (recLs_64 hck)
 have e : appJ J root (srt l) s = (⟨(wrA s.r J.d (1 + 80 * J.area + J.used) (recLs (J.seq + 1) root (srt l))).1, addT s.ts (nextSs J.anchor (recLs (J.seq + 1) root (srt l)))⟩, 0) := by unfold appJ; exact if_pos hw.e
 refine ⟨by rw [e], ⟨rfl, ?_, ?_⟩, ?_, ?_⟩
 · rw [e]; exact hw.fine
 · rw [e]; exact hw.nw
 · rw [e]; exact addT_len _ _
 · rw [e]
   show (wrA s.r J.d (1 + 80 * J.area + J.used) (recLs (J.seq + 1) root (srt l))).1 = _
   rw [wrA_N h (by rw [hJ.d]; omega) (by rw [hlen, hsl]; omega) (recLs_64 hck)]
theorem appX_ji {J : JrP} {root : Dg} {l : List (Int × ByteArray)} {d : Nat} {super : ByteArray} {N : Int} (hJ : JI J d super N) (hl : l.length ≤ 64) (hr : roomJ J l.length = true) : JI (appX J root (srt l) 0) d super (N + 1) := by
 have hrm := of_decide_eq_true hr
 have hlen := recLs_len (J.seq + 1) root (srt l)
 have hsl := srt_len l
 have hrl : rlen l.length = 1 + (l.length + 31) / 32 + l.length := by unfold rlen; rw [if_neg (by omega)]
 have hq := hJ.sq
 have hu := hJ.used
 have e : appX J root (srt l) 0 = addJs J (J.seq + 1) root (recLs (J.seq + 1) root (srt l)) := if_pos rfl
 rw [e]
 refine ⟨hJ.d, hJ.area, ⟨?_, ?_⟩, ⟨?_, ?_⟩, hJ.sup⟩
 · show 1 ≤ J.used + _; omega
 · show J.used + (recLs (J.seq + 1) root (srt l)).length ≤ 80; rw [hlen, hsl]; omega
 · show 0 ≤ J.seq + 1; omega
 · show J.seq + 1 ≤ N + 1; omega
structure DK (super : ByteArray) (r : RigP) (J0 J1 : JrP) (y : RgV) (C0 C1 : Nat → ByteArray) : Prop where
 d0 : ∃ R, DR r J0 0 super R C0
 d1 : ∃ R, DR r J1 1 super R C1
 sp : SP r super
 rg : r.reg = y.lay
structure DJ (super : ByteArray) (r : RigP) (J0 J1 : JrP) (y : RgV) (C0 C1 : Nat → ByteArray) : Prop where
 dk : DK super r J0 J1 y C0 C1
 n0 : ∀ j, 161 ≤ j → j < 288 → nw_ r 0 j = C0 j
 n1 : ∀ j, 161 ≤ j → j < 288 → nw_ r 1 j = C1 j
theorem DK.sr {super : ByteArray} {r : RigP} {J0 J1 : JrP} {y : RgV} {C0 C1 : Nat → ByteArray} (h : DK super r J0 J1 y C0 C1) (Y : RgV) : DK super (srF r Y.lay) J0 J1 Y C0 C1 := by
 obtain ⟨⟨R0, d0⟩, ⟨R1, d1⟩, sp, rg⟩ := h
 exact ⟨⟨R0, d0.sr _⟩, ⟨R1, d1.sr _⟩, sp.sr _, rfl⟩
structure AppI (J : JrP) (root : Dg) (l : List (Int × ByteArray)) : Prop where
 ck : chkE (J.seq + 1) (srt l) = 0
 us : J.used + (recLs (J.seq + 1) root (srt l)).length ≤ 80
 kb : ∀ p ∈ srt l, 161 ≤ p.1
 nd : ((srt l).map (·.1)).Nodup
 e : appX J root (srt l) 0 = jadd_ J ⟨J.seq + 1, root, srt l⟩
 u2 : (jadd_ J ⟨J.seq + 1, root, srt l⟩).used ≤ 80
theorem appI {J : JrP} {root : Dg} {l : List (Int × ByteArray)} {d : Nat} {super : ByteArray} {N : Int} (hJ : JI J d super N) (hN : N + 1 ≤ 4294967295) (hs : ShI l) (hl : l.length ≤ 64) (hr : roomJ J l.length = true) : AppI J root l := by
 have hck := chkE_of (seq := J.seq + 1) hs hl (by have := hJ.sq; unfold seqOk; omega)
 have hrm := of_decide_eq_true hr
 have hlen := recLs_len (J.seq + 1) root (srt l)
 have hsl := srt_len l
 have hrl : rlen l.length = 1 + (l.length + 31) / 32 + l.length := by unfold rlen; rw [if_neg (by omega)]
 have hu : J.used + (recLs (J.seq + 1) root (srt l)).length ≤ 80 := by rw [hlen, hsl]; omega
 exact ⟨hck, hu, fun p hp => (hs.ok p ((srt_perm l).mem_iff.1 hp)).1, ((srt_perm l).map (·.1)).nodup_iff.2 hs.un, if_pos rfl, hu⟩
theorem pend {r : RigP} {d : Int} (hd : d = 0 ∨ d = 1) (at_ : Nat) (l : List ByteArray) : ∀ i, i < l.length → nw_ (wrN r d at_ l) d (at_ + i) = (l[i]?).getD ByteArray.empty := fun i hi => by
 rw [nw_wrN hd hd (at_ + i) l at_ r, if_pos ⟨rfl, by omega, by omega⟩, Nat.add_sub_cancel_left]
theorem dk_0 {super : ByteArray} {r : RigP} {J0 J1 : JrP} {y : RgV} {C0 C1 : Nat → ByteArray} {root : Dg} {l : List (Int × ByteArray)} {N : Int} (h : DK super r J0 J1 y C0 C1) (k0 : JI J0 0 super N) (k1 : JI J1 1 super N) (ai : AppI J0 root l) (hn : (l.map (·.1)).Nodup) (Y : RgV) :
 DK super (wrK (srF (flN (wrN r 0 (1 + 80 * J0.area + J0.used) (recLs (J0.seq + 1) root (srt l))) [0]) Y.lay) 0 (srt l)) (appX J0 root (srt l) 0) J1 Y (ovl l C0) C1 := by
 obtain ⟨⟨R0, d0⟩, ⟨R1, d1⟩, sp, rg⟩ := h
 have us := ai.us
 have ar := k0.area
 have are := k1.area
 have ue := k1.used
 have a1 := d0.wr (d' := 0) (i := 1 + 80 * J0.area + J0.used) (l := recLs (J0.seq + 1) root (srt l)) (by decide) (.inl rfl) (by omega) (fun _ => .inr (Nat.le_refl _))
 have b1 := d1.wrO (d' := 0) (by decide) (.inl rfl) (by decide) (recLs (J0.seq + 1) root (srt l)) (1 + 80 * J0.area + J0.used)
 have a2 := a1.appF (x := ⟨J0.seq + 1, root, srt l⟩) (by decide) ai.ck rfl (pend (r := r) (d := 0) (.inl rfl) (1 + 80 * J0.area + J0.used) (recLs (J0.seq + 1) root (srt l)))
 have b2 := b1.fl (d' := 0) (by decide) (.inl rfl)
 have a3 := a2.sr Y.lay
 have b3 := b2.sr Y.lay
 have a4 := a3.hmS (d' := 0) (l := srt l) (by decide) (.inl rfl) ai.kb (fun _ p hp j hj => ovl_in ai.nd C0 hp hj) ai.u2 ar
 have b4 := b3.hmS (d' := 0) (l := srt l) (by decide) (.inl rfl) ai.kb (fun g => absurd g (by decide)) (by omega) are
 rw [ai.e, ← ovl_srt hn C0]
 refine ⟨⟨_, a4⟩, ⟨_, b4⟩, ((sp.wr (.inl rfl) (by omega) _).fl (.inl rfl)).sr _ |>.hm (.inl rfl) ai.kb, ?_⟩
 rw [reg_wrK]; rfl
theorem dk_1 {super : ByteArray} {r : RigP} {J0 J1 : JrP} {y : RgV} {C0 C1 : Nat → ByteArray} {root : Dg} {l : List (Int × ByteArray)} {N : Int} (h : DK super r J0 J1 y C0 C1) (k0 : JI J0 0 super N) (k1 : JI J1 1 super N) (ai : AppI J1 root l) (hn : (l.map (·.1)).Nodup) (Y : RgV) :
 DK super (wrK (srF (flN (wrN r 1 (1 + 80 * J1.area + J1.used) (recLs (J1.seq + 1) root (srt l))) [1]) Y.lay) 1 (srt l)) J0 (appX J1 root (srt l) 0) Y C0 (ovl l C1) := by
 obtain ⟨⟨R0, d0⟩, ⟨R1, d1⟩, sp, rg⟩ := h
 have us := ai.us
 have ar := k1.area
 have are := k0.area
 have ue := k0.used
 have a1 := d1.wr (d' := 1) (i := 1 + 80 * J1.area + J1.used) (l := recLs (J1.seq + 1) root (srt l)) (by decide) (.inr rfl) (by omega) (fun _ => .inr (Nat.le_refl _))
 have b1 := d0.wrO (d' := 1) (by decide) (.inr rfl) (by decide) (recLs (J1.seq + 1) root (srt l)) (1 + 80 * J1.area + J1.used)
 have a2 := a1.appF (x := ⟨J1.seq + 1, root, srt l⟩) (by decide) ai.ck rfl (pend (r := r) (d := 1) (.inr rfl) (1 + 80 * J1.area + J1.used) (recLs (J1.seq + 1) root (srt l)))
 have b2 := b1.fl (d' := 1) (by decide) (.inr rfl)
 have a3 := a2.sr Y.lay
 have b3 := b2.sr Y.lay
 have a4 := a3.hmS (d' := 1) (l := srt l) (by decide) (.inr rfl) ai.kb (fun _ p hp j hj => ovl_in ai.nd C1 hp hj) ai.u2 ar
 have b4 := b3.hmS (d' := 1) (l := srt l) (by decide) (.inr rfl) ai.kb (fun g => absurd g (by decide)) (by omega) are
 rw [ai.e, ← ovl_srt hn C1]
 refine ⟨⟨_, b4⟩, ⟨_, a4⟩, ((sp.wr (.inr rfl) (by omega) _).fl (.inr rfl)).sr _ |>.hm (.inr rfl) ai.kb, ?_⟩
 rw [reg_wrK]; rfl
theorem dk_01 {super : ByteArray} {r : RigP} {J0 J1 : JrP} {y : RgV} {C0 C1 : Nat → ByteArray} {root0 root1 : Dg} {l0 l1 : List (Int × ByteArray)} {N : Int} (h : DK super r J0 J1 y C0 C1) (k0 : JI J0 0 super N) (k1 : JI J1 1 super N) (i0 : AppI J0 root0 l0) (i1 : AppI J1 root1 l1) (hn0 : (l0.map (·.1)).Nodup) (hn1 : (l1.map (·.1)).Nodup) (Y : RgV) :
 DK super (wrK (wrK (srF (flN (wrN (wrN r 0 (1 + 80 * J0.area + J0.used) (recLs (J0.seq + 1) root0 (srt l0))) 1 (1 + 80 * J1.area + J1.used) (recLs (J1.seq + 1) root1 (srt l1))) [0, 1]) Y.lay) 0 (srt l0)) 1 (srt l1)) (appX J0 root0 (srt l0) 0) (appX J1 root1 (srt l1) 0) Y (ovl l0 C0) (ovl l1 C1) := by
 obtain ⟨⟨R0, d0⟩, ⟨R1, d1⟩, sp, rg⟩ := h
 have us0 := i0.us
 have us1 := i1.us
 have ar0 := k0.area
 have ar1 := k1.area
 have a1 := d0.wr (d' := 0) (i := 1 + 80 * J0.area + J0.used) (l := recLs (J0.seq + 1) root0 (srt l0)) (by decide) (.inl rfl) (by omega) (fun _ => .inr (Nat.le_refl _))
 have b1 := d1.wrO (d' := 0) (by decide) (.inl rfl) (by decide) (recLs (J0.seq + 1) root0 (srt l0)) (1 + 80 * J0.area + J0.used)
 have a2 := a1.wrO (d' := 1) (by decide) (.inr rfl) (by decide) (recLs (J1.seq + 1) root1 (srt l1)) (1 + 80 * J1.area + J1.used)
 have b2 := b1.wr (d' := 1) (i := 1 + 80 * J1.area + J1.used) (l := recLs (J1.seq + 1) root1 (srt l1)) (by decide) (.inr rfl) (by omega) (fun _ => .inr (Nat.le_refl _))
 have p0 := pend (r := r) (d := 0) (.inl rfl) (1 + 80 * J0.area + J0.used) (recLs (J0.seq + 1) root0 (srt l0))
 have p1 := pend (r := wrN r 0 (1 + 80 * J0.area + J0.used) (recLs (J0.seq + 1) root0 (srt l0))) (d := 1) (.inr rfl) (1 + 80 * J1.area + J1.used) (recLs (J1.seq + 1) root1 (srt l1))
 have a3 := a2.appF (x := ⟨J0.seq + 1, root0, srt l0⟩) (by decide) i0.ck rfl (fun i hi => by
  refine (nw_wrN (d := 1) (.inr rfl) (d' := ((0 : Nat) : Int)) (.inl rfl) _ (recLs (J1.seq + 1) root1 (srt l1)) (1 + 80 * J1.area + J1.used) _).trans ?_
  rw [if_neg (fun g => absurd g.1 (by decide))]
  exact p0 i hi)
 have b3 := b2.fl (d' := 0) (by decide) (.inl rfl)
 have a4 := a3.fl (d' := 1) (by decide) (.inr rfl)
 have b4 := b3.appF (x := ⟨J1.seq + 1, root1, srt l1⟩) (by decide) i1.ck rfl (fun i hi => by
  rw [nw_fl _ 0 ((1 : Nat) : Int) _ (.inl rfl) (.inr rfl)]
  exact p1 i hi)
 have a5 := (a4.sr Y.lay).hmS (d' := 0) (l := srt l0) (by decide) (.inl rfl) i0.kb (fun _ p hp j hj => ovl_in i0.nd C0 hp hj) i0.u2 ar0
 have b5 := (b4.sr Y.lay).hmS (d' := 0) (l := srt l0) (by decide) (.inl rfl) i0.kb (fun g => absurd g (by decide)) i1.u2 ar1
 have a6 := a5.hmS (d' := 1) (l := srt l1) (by decide) (.inr rfl) i1.kb (fun g => absurd g (by decide)) i0.u2 ar0
 have b6 := b5.hmS (d' := 1) (l := srt l1) (by decide) (.inr rfl) i1.kb (fun _ p hp j hj => ovl_in i1.nd C1 hp hj) i1.u2 ar1
 rw [i0.e, i1.e, ← ovl_srt hn0 C0, ← ovl_srt hn1 C1]
 refine ⟨⟨_, a6⟩, ⟨_, b6⟩, ((((((sp.wr (d := 0) (.inl rfl) (by omega) (recLs (J0.seq + 1) root0 (srt l0))).wr (d := 1) (.inr rfl) (by omega) (recLs (J1.seq + 1) root1 (srt l1))).fl (d := 0) (.inl rfl)).fl (d := 1) (.inr rfl)).sr Y.lay).hm (d := 0) (.inl rfl) i0.kb).hm (d := 1) (.inr rfl) i1.kb, ?_⟩
 rw [reg_wrK, reg_wrK]; rfl
structure CI (super : ByteArray) (c : Cx) (N : Int) : Prop where
 fine : Fine c.s.r
 at_ : c.is.at_ = true
 iok : c.is.ok
 ok : (RgV.dm c.is c.next).ok
 j0 : JI c.j0 0 super N
 j1 : JI c.j1 1 super N
 rj : RJ c.is c.j0 c.j1
 s0 : ShI c.t0.sheet
 s1 : ShI c.t1.sheet
 l0 : c.t0.sheet.length ≤ 64
 l1 : c.t1.sheet.length ≤ 64
structure CO (super : ByteArray) (c : Cx) (N : Int) (q : Cx × Int) (k : Nat) : Prop where
 e : q.2 = 0
 fine : Fine q.1.s.r
 nx : q.1.next = q.1.is
 ok : q.1.is.ok
 dy : q.1.is.dirty = c.next.dirty ∧ q.1.is.mode = c.next.mode
 sm : q.1.is.at_ = c.is.at_ ∧ q.1.is.iv = c.is.iv ∧ q.1.is.ep = c.is.ep
 j0 : JI q.1.j0 0 super (N + 1)
 j1 : JI q.1.j1 1 super (N + 1)
 rj : RJ q.1.is q.1.j0 q.1.j1
 t0 : q.1.t0 = TreP.clr c.t0
 t1 : q.1.t1 = TreP.clr c.t1
 n0 : ∀ j : Nat, 161 ≤ j → nw_ q.1.s.r 0 j = (getS c.t0.sheet j).getD (nw_ c.s.r 0 j)
 n1 : ∀ j : Nat, 161 ≤ j → nw_ q.1.s.r 1 j = (getS c.t1.sheet j).getD (nw_ c.s.r 1 j)
 ts : q.1.s.ts.length ≤ c.s.ts.length + k
 dk : ∀ C0 C1, DJ super c.s.r c.j0 c.j1 c.is C0 C1 → DK super q.1.s.r q.1.j0 q.1.j1 q.1.is (ovl c.t0.sheet C0) (ovl c.t1.sheet C1)
 rt0 : q.1.j0.root = if c.t0.sheet = [] then c.j0.root else c.t0.root
 rt1 : q.1.j1.root = if c.t1.sheet = [] then c.j1.root else c.t1.root
theorem CO.dj {super : ByteArray} {c : Cx} {N : Int} {q : Cx × Int} {k : Nat} (h : CO super c N q k) {C0 C1 : Nat → ByteArray} (hj : DJ super c.s.r c.j0 c.j1 c.is C0 C1) : DJ super q.1.s.r q.1.j0 q.1.j1 q.1.is (ovl c.t0.sheet C0) (ovl c.t1.sheet C1) :=
 ⟨h.dk C0 C1 hj, fun j h1 h2 => by rw [h.n0 j h1, hj.n0 j h1 h2]; rfl, fun j h1 h2 => by rw [h.n1 j h1, hj.n1 j h1 h2]; rfl⟩
theorem JI.more {J : JrP} {d : Nat} {super : ByteArray} {N : Int} (h : JI J d super N) : JI J d super (N + 1) := ⟨h.d, h.area, h.used, ⟨h.sq.1, by have := h.sq.2; omega⟩, h.sup⟩
theorem clr_nil {t : TreP} (h : t.sheet = []) : TreP.clr t = t := by unfold TreP.clr; rw [← h]
theorem getS_nil (j : Int) : getS [] j = none := rfl
theorem appX_area (J : JrP) (root : Dg) (l : List (Int × ByteArray)) : (appX J root l 0).area = J.area := by unfold appX; rw [if_pos rfl]; rfl
theorem appX_root (J : JrP) (root : Dg) (l : List (Int × ByteArray)) : (appX J root l 0).root = root := by unfold appX; rw [if_pos rfl]; rfl
attribute [local irreducible] appJ appX hmG setG srt roomJ
theorem com0_ok {super : ByteArray} {c : Cx} {N : Int} (h : CI super c N) (hN : N + 1 ≤ 4294967295) (hr0 : roomJ c.j0 c.t0.sheet.length = true) (hz0 : c.t0.sheet ≠ []) (he1 : c.t1.sheet = []) : CO super c N (com0 c) 2 := by
 obtain ⟨s, I0, I1, T0, T1, is, next, yy⟩ := c
 obtain ⟨hf, hat, hiok, hok, hj0, hj1, hrj, hs0, hs1, hl0, hl1⟩ := h
 dsimp only at *
 have a0 := app_fine (root := T0.root) (s := s) hf hj0 (by omega) hN hs0 hl0 hr0
 have k0 := appX_ji (root := T0.root) hj0 hl0 hr0
 obtain ⟨S0, eS0⟩ : ∃ S, S = (appJ I0 T0.root (srt T0.sheet) s).1 := ⟨_, rfl⟩
 obtain ⟨K0, eK0⟩ : ∃ K, K = appX I0 T0.root (srt T0.sheet) 0 := ⟨_, rfl⟩
 have x0 := a0.e
 have y0 := a0.st
 have z0 := a0.ts
 have r0 := a0.r
 rw [hj0.d] at r0
 have i0 := appI (root := T0.root) hj0 hN hs0 hl0 hr0
 rw [← eS0] at y0 z0 r0
 rw [← eK0] at k0
 have f0 : ap0 (Cx.go ⟨s, I0, I1, T0, T1, is, next, yy⟩) = (⟨S0, K0, I1, T0, T1, is, next, (RgV.an (RgV.dm is next) 0 K0.anchor K0.used)⟩, 0) := by
  rw [eS0, eK0]
  unfold ap0
  exact if_pos x0
 have o0 : RgV.ok (RgV.an (RgV.dm is next) 0 K0.anchor K0.used) := an0_ok hok _ k0.used.2
 have b1 := ste_fl (l := [0]) y0.fine (by decide)
 obtain ⟨G, eG⟩ : ∃ G, G = lp (flG [0]) [0].length 0 S0.r := ⟨_, rfl⟩
 rw [← eG] at b1
 have b2 := ste_set b1.fine o0
 obtain ⟨E, eE⟩ : ∃ E, E = setG G.1 (RgV.an (RgV.dm is next) 0 K0.anchor K0.used) := ⟨_, rfl⟩
 rw [← eE] at b2
 have rG : G.1 = flN S0.r [0] := by rw [eG, flG_N y0.fine (by decide)]
 have rE : E.1 = srF G.1 (RgV.lay (RgV.an (RgV.dm is next) 0 K0.anchor K0.used)) := by rw [eE, setG_F b1.fine o0]
 have f2 : flC [0] ⟨S0, K0, I1, T0, T1, is, next, (RgV.an (RgV.dm is next) 0 K0.anchor K0.used)⟩ = (⟨⟨G.1, S0.ts⟩, K0, I1, T0, T1, is, next, (RgV.an (RgV.dm is next) 0 K0.anchor K0.used)⟩, 0) := by
  unfold flC
  rw [← eG, b1.e]
 have f3 : sayC ⟨⟨G.1, S0.ts⟩, K0, I1, T0, T1, is, next, (RgV.an (RgV.dm is next) 0 K0.anchor K0.used)⟩ = (⟨⟨E.1, S0.ts⟩, K0, I1, T0, T1, (RgV.an (RgV.dm is next) 0 K0.anchor K0.used), (RgV.an (RgV.dm is next) 0 K0.anchor K0.used), (RgV.an (RgV.dm is next) 0 K0.anchor K0.used)⟩, 0) := by
  unfold sayC
  rw [if_pos (by rw [← eE]; exact b2.e), ← eE]
 have c0 := hm_ok b2.fine (d := 0) (.inl rfl) hs0.un hs0.ok
 obtain ⟨H0, eH0⟩ : ∃ H, H = hmG E.1 0 T0.sheet := ⟨_, rfl⟩
 rw [← eH0] at c0
 have rH0 : H0.1 = wrK E.1 0 (srt T0.sheet) := by rw [eH0, hmG_K b2.fine (.inl rfl) hs0.ok]
 have g0 : hm0 ⟨⟨E.1, S0.ts⟩, K0, I1, T0, T1, (RgV.an (RgV.dm is next) 0 K0.anchor K0.used), (RgV.an (RgV.dm is next) 0 K0.anchor K0.used), (RgV.an (RgV.dm is next) 0 K0.anchor K0.used)⟩ = (⟨⟨H0.1, S0.ts⟩, K0, I1, (TreP.clr T0), T1, (RgV.an (RgV.dm is next) 0 K0.anchor K0.used), (RgV.an (RgV.dm is next) 0 K0.anchor K0.used), (RgV.an (RgV.dm is next) 0 K0.anchor K0.used)⟩, 0) := by
  unfold hm0
  rw [if_pos (by rw [← eH0]; exact c0.e), ← eH0]
 have eq : com0 ⟨s, I0, I1, T0, T1, is, next, yy⟩ = (⟨⟨H0.1, S0.ts⟩, K0, I1, (TreP.clr T0), T1, (RgV.an (RgV.dm is next) 0 K0.anchor K0.used), (RgV.an (RgV.dm is next) 0 K0.anchor K0.used), (RgV.an (RgV.dm is next) 0 K0.anchor K0.used)⟩, 0) := by unfold com0; rw [f0, bd_pok rfl, f2, bd_pok rfl, f3, bd_pok rfl, g0]
 rw [eq]
 refine ⟨rfl, c0.fine, rfl, o0, ⟨rfl, rfl⟩, ⟨rfl, rfl, rfl⟩, k0, hj1.more, ?_, rfl, (clr_nil he1).symm, fun j hj => by show nw_ H0.1 0 j = _; rw [c0.on j hj, b2.nw 0 (.inl rfl) j hj, b1.nw 0 (.inl rfl) j hj, y0.nw 0 (.inl rfl) j hj], fun j hj => by show nw_ H0.1 1 j = _; rw [c0.off 1 (.inr rfl) (by decide) j, b2.nw 1 (.inr rfl) j hj, b1.nw 1 (.inr rfl) j hj, y0.nw 1 (.inr rfl) j hj]; rw [he1, getS_nil]; rfl, ?_, ?_, (by show K0.root = _; rw [if_neg hz0, eK0]; exact appX_root _ _ _), (by rw [if_pos he1])⟩
 · have q0 : K0.area = I0.area := by rw [eK0]; exact appX_area _ _ _
   exact ⟨rfl, by show is.ar0 = (K0.area : Int); rw [q0]; exact hrj.r0, rfl, hrj.a1, hrj.r1, hrj.u1⟩
 · show S0.ts.length ≤ s.ts.length + 2; omega
 · intro C0 C1 hj
   show DK super H0.1 K0 I1 (RgV.an (RgV.dm is next) 0 K0.anchor K0.used) (ovl T0.sheet C0) (ovl T1.sheet C1)
   rw [rH0, rE, rG, r0, eK0, he1]
   exact dk_0 hj.dk hj0 hj1 i0 hs0.un _
theorem com1_ok {super : ByteArray} {c : Cx} {N : Int} (h : CI super c N) (hN : N + 1 ≤ 4294967295) (hr1 : roomJ c.j1 c.t1.sheet.length = true) (hz1 : c.t1.sheet ≠ []) (he0 : c.t0.sheet = []) : CO super c N (com1 c) 2 := by
 obtain ⟨s, I0, I1, T0, T1, is, next, yy⟩ := c
 obtain ⟨hf, hat, hiok, hok, hj0, hj1, hrj, hs0, hs1, hl0, hl1⟩ := h
 dsimp only at *
 have a1 := app_fine (root := T1.root) (s := s) hf hj1 (by omega) hN hs1 hl1 hr1
 have k1 := appX_ji (root := T1.root) hj1 hl1 hr1
 obtain ⟨S1, eS1⟩ : ∃ S, S = (appJ I1 T1.root (srt T1.sheet) s).1 := ⟨_, rfl⟩
 obtain ⟨K1, eK1⟩ : ∃ K, K = appX I1 T1.root (srt T1.sheet) 0 := ⟨_, rfl⟩
 have x1 := a1.e
 have y1 := a1.st
 have z1 := a1.ts
 have r1 := a1.r
 rw [hj1.d] at r1
 have i1 := appI (root := T1.root) hj1 hN hs1 hl1 hr1
 rw [← eS1] at y1 z1 r1
 rw [← eK1] at k1
 have f1 : ap1 (Cx.go ⟨s, I0, I1, T0, T1, is, next, yy⟩) = (⟨S1, I0, K1, T0, T1, is, next, (RgV.an (RgV.dm is next) 1 K1.anchor K1.used)⟩, 0) := by
  rw [eS1, eK1]
  unfold ap1
  exact if_pos x1
 have o1 : RgV.ok (RgV.an (RgV.dm is next) 1 K1.anchor K1.used) := an1_ok hok hat _ k1.used.2
 have b1 := ste_fl (l := [1]) y1.fine (by decide)
 obtain ⟨G, eG⟩ : ∃ G, G = lp (flG [1]) [1].length 0 S1.r := ⟨_, rfl⟩
 rw [← eG] at b1
 have b2 := ste_set b1.fine o1
 obtain ⟨E, eE⟩ : ∃ E, E = setG G.1 (RgV.an (RgV.dm is next) 1 K1.anchor K1.used) := ⟨_, rfl⟩
 rw [← eE] at b2
 have rG : G.1 = flN S1.r [1] := by rw [eG, flG_N y1.fine (by decide)]
 have rE : E.1 = srF G.1 (RgV.lay (RgV.an (RgV.dm is next) 1 K1.anchor K1.used)) := by rw [eE, setG_F b1.fine o1]
 have f2 : flC [1] ⟨S1, I0, K1, T0, T1, is, next, (RgV.an (RgV.dm is next) 1 K1.anchor K1.used)⟩ = (⟨⟨G.1, S1.ts⟩, I0, K1, T0, T1, is, next, (RgV.an (RgV.dm is next) 1 K1.anchor K1.used)⟩, 0) := by
  unfold flC
  rw [← eG, b1.e]
 have f3 : sayC ⟨⟨G.1, S1.ts⟩, I0, K1, T0, T1, is, next, (RgV.an (RgV.dm is next) 1 K1.anchor K1.used)⟩ = (⟨⟨E.1, S1.ts⟩, I0, K1, T0, T1, (RgV.an (RgV.dm is next) 1 K1.anchor K1.used), (RgV.an (RgV.dm is next) 1 K1.anchor K1.used), (RgV.an (RgV.dm is next) 1 K1.anchor K1.used)⟩, 0) := by
  unfold sayC
  rw [if_pos (by rw [← eE]; exact b2.e), ← eE]
 have c1 := hm_ok b2.fine (d := 1) (.inr rfl) hs1.un hs1.ok
 obtain ⟨H1, eH1⟩ : ∃ H, H = hmG E.1 1 T1.sheet := ⟨_, rfl⟩
 rw [← eH1] at c1
 have rH1 : H1.1 = wrK E.1 1 (srt T1.sheet) := by rw [eH1, hmG_K b2.fine (.inr rfl) hs1.ok]
 have g1 : hm1 ⟨⟨E.1, S1.ts⟩, I0, K1, T0, T1, (RgV.an (RgV.dm is next) 1 K1.anchor K1.used), (RgV.an (RgV.dm is next) 1 K1.anchor K1.used), (RgV.an (RgV.dm is next) 1 K1.anchor K1.used)⟩ = (⟨⟨H1.1, S1.ts⟩, I0, K1, T0, (TreP.clr T1), (RgV.an (RgV.dm is next) 1 K1.anchor K1.used), (RgV.an (RgV.dm is next) 1 K1.anchor K1.used), (RgV.an (RgV.dm is next) 1 K1.anchor K1.used)⟩, 0) := by
  unfold hm1
  rw [if_pos (by rw [← eH1]; exact c1.e), ← eH1]
 have eq : com1 ⟨s, I0, I1, T0, T1, is, next, yy⟩ = (⟨⟨H1.1, S1.ts⟩, I0, K1, T0, (TreP.clr T1), (RgV.an (RgV.dm is next) 1 K1.anchor K1.used), (RgV.an (RgV.dm is next) 1 K1.anchor K1.used), (RgV.an (RgV.dm is next) 1 K1.anchor K1.used)⟩, 0) := by unfold com1; rw [f1, bd_pok rfl, f2, bd_pok rfl, f3, bd_pok rfl, g1]
 rw [eq]
 refine ⟨rfl, c1.fine, rfl, o1, ⟨rfl, rfl⟩, ⟨rfl, rfl, rfl⟩, hj0.more, k1, ?_, (clr_nil he0).symm, rfl, fun j hj => by show nw_ H1.1 0 j = _; rw [c1.off 0 (.inl rfl) (by decide) j, b2.nw 0 (.inl rfl) j hj, b1.nw 0 (.inl rfl) j hj, y1.nw 0 (.inl rfl) j hj]; rw [he0, getS_nil]; rfl, fun j hj => by show nw_ H1.1 1 j = _; rw [c1.on j hj, b2.nw 1 (.inr rfl) j hj, b1.nw 1 (.inr rfl) j hj, y1.nw 1 (.inr rfl) j hj], ?_, ?_, (by rw [if_pos he0]), (by show K1.root = _; rw [if_neg hz1, eK1]; exact appX_root _ _ _)⟩
 · have q1 : K1.area = I1.area := by rw [eK1]; exact appX_area _ _ _
   exact ⟨hrj.a0, hrj.r0, hrj.u0, rfl, by show is.ar1 = (K1.area : Int); rw [q1]; exact hrj.r1, rfl⟩
 · show S1.ts.length ≤ s.ts.length + 2; omega
 · intro C0 C1 hj
   show DK super H1.1 I0 K1 (RgV.an (RgV.dm is next) 1 K1.anchor K1.used) (ovl T0.sheet C0) (ovl T1.sheet C1)
   rw [rH1, rE, rG, r1, eK1, he0]
   exact dk_1 hj.dk hj0 hj1 i1 hs1.un _
theorem com01_ok {super : ByteArray} {c : Cx} {N : Int} (h : CI super c N) (hN : N + 1 ≤ 4294967295) (hr0 : roomJ c.j0 c.t0.sheet.length = true) (hz0 : c.t0.sheet ≠ []) (hr1 : roomJ c.j1 c.t1.sheet.length = true) (hz1 : c.t1.sheet ≠ [])  : CO super c N (com01 c) 2 := by
 obtain ⟨s, I0, I1, T0, T1, is, next, yy⟩ := c
 obtain ⟨hf, hat, hiok, hok, hj0, hj1, hrj, hs0, hs1, hl0, hl1⟩ := h
 dsimp only at *
 have a0 := app_fine (root := T0.root) (s := s) hf hj0 (by omega) hN hs0 hl0 hr0
 have k0 := appX_ji (root := T0.root) hj0 hl0 hr0
 obtain ⟨S0, eS0⟩ : ∃ S, S = (appJ I0 T0.root (srt T0.sheet) s).1 := ⟨_, rfl⟩
 obtain ⟨K0, eK0⟩ : ∃ K, K = appX I0 T0.root (srt T0.sheet) 0 := ⟨_, rfl⟩
 have x0 := a0.e
 have y0 := a0.st
 have z0 := a0.ts
 have r0 := a0.r
 rw [hj0.d] at r0
 have i0 := appI (root := T0.root) hj0 hN hs0 hl0 hr0
 rw [← eS0] at y0 z0 r0
 rw [← eK0] at k0
 have f0 : ap0 (Cx.go ⟨s, I0, I1, T0, T1, is, next, yy⟩) = (⟨S0, K0, I1, T0, T1, is, next, (RgV.an (RgV.dm is next) 0 K0.anchor K0.used)⟩, 0) := by
  rw [eS0, eK0]
  unfold ap0
  exact if_pos x0
 have o0 : RgV.ok (RgV.an (RgV.dm is next) 0 K0.anchor K0.used) := an0_ok hok _ k0.used.2
 have a1 := app_fine (root := T1.root) (s := S0) y0.fine hj1 (by omega) hN hs1 hl1 hr1
 have k1 := appX_ji (root := T1.root) hj1 hl1 hr1
 obtain ⟨S1, eS1⟩ : ∃ S, S = (appJ I1 T1.root (srt T1.sheet) S0).1 := ⟨_, rfl⟩
 obtain ⟨K1, eK1⟩ : ∃ K, K = appX I1 T1.root (srt T1.sheet) 0 := ⟨_, rfl⟩
 have x1 := a1.e
 have y1 := a1.st
 have z1 := a1.ts
 have r1 := a1.r
 rw [hj1.d] at r1
 have i1 := appI (root := T1.root) hj1 hN hs1 hl1 hr1
 rw [← eS1] at y1 z1 r1
 rw [← eK1] at k1
 have f1 : ap1 ⟨S0, K0, I1, T0, T1, is, next, (RgV.an (RgV.dm is next) 0 K0.anchor K0.used)⟩ = (⟨S1, K0, K1, T0, T1, is, next, (RgV.an (RgV.an (RgV.dm is next) 0 K0.anchor K0.used) 1 K1.anchor K1.used)⟩, 0) := by
  rw [eS1, eK1]
  unfold ap1
  exact if_pos x1
 have o1 : RgV.ok (RgV.an (RgV.an (RgV.dm is next) 0 K0.anchor K0.used) 1 K1.anchor K1.used) := an1_ok o0 hat _ k1.used.2
 have b1 := ste_fl (l := [0, 1]) y1.fine (by decide)
 obtain ⟨G, eG⟩ : ∃ G, G = lp (flG [0, 1]) [0, 1].length 0 S1.r := ⟨_, rfl⟩
 rw [← eG] at b1
 have b2 := ste_set b1.fine o1
 obtain ⟨E, eE⟩ : ∃ E, E = setG G.1 (RgV.an (RgV.an (RgV.dm is next) 0 K0.anchor K0.used) 1 K1.anchor K1.used) := ⟨_, rfl⟩
 rw [← eE] at b2
 have rG : G.1 = flN S1.r [0, 1] := by rw [eG, flG_N y1.fine (by decide)]
 have rE : E.1 = srF G.1 (RgV.lay (RgV.an (RgV.an (RgV.dm is next) 0 K0.anchor K0.used) 1 K1.anchor K1.used)) := by rw [eE, setG_F b1.fine o1]
 have f2 : flC [0, 1] ⟨S1, K0, K1, T0, T1, is, next, (RgV.an (RgV.an (RgV.dm is next) 0 K0.anchor K0.used) 1 K1.anchor K1.used)⟩ = (⟨⟨G.1, S1.ts⟩, K0, K1, T0, T1, is, next, (RgV.an (RgV.an (RgV.dm is next) 0 K0.anchor K0.used) 1 K1.anchor K1.used)⟩, 0) := by
  unfold flC
  rw [← eG, b1.e]
 have f3 : sayC ⟨⟨G.1, S1.ts⟩, K0, K1, T0, T1, is, next, (RgV.an (RgV.an (RgV.dm is next) 0 K0.anchor K0.used) 1 K1.anchor K1.used)⟩ = (⟨⟨E.1, S1.ts⟩, K0, K1, T0, T1, (RgV.an (RgV.an (RgV.dm is next) 0 K0.anchor K0.used) 1 K1.anchor K1.used), (RgV.an (RgV.an (RgV.dm is next) 0 K0.anchor K0.used) 1 K1.anchor K1.used), (RgV.an (RgV.an (RgV.dm is next) 0 K0.anchor K0.used) 1 K1.anchor K1.used)⟩, 0) := by
  unfold sayC
  rw [if_pos (by rw [← eE]; exact b2.e), ← eE]
 have c0 := hm_ok b2.fine (d := 0) (.inl rfl) hs0.un hs0.ok
 obtain ⟨H0, eH0⟩ : ∃ H, H = hmG E.1 0 T0.sheet := ⟨_, rfl⟩
 rw [← eH0] at c0
 have rH0 : H0.1 = wrK E.1 0 (srt T0.sheet) := by rw [eH0, hmG_K b2.fine (.inl rfl) hs0.ok]
 have g0 : hm0 ⟨⟨E.1, S1.ts⟩, K0, K1, T0, T1, (RgV.an (RgV.an (RgV.dm is next) 0 K0.anchor K0.used) 1 K1.anchor K1.used), (RgV.an (RgV.an (RgV.dm is next) 0 K0.anchor K0.used) 1 K1.anchor K1.used), (RgV.an (RgV.an (RgV.dm is next) 0 K0.anchor K0.used) 1 K1.anchor K1.used)⟩ = (⟨⟨H0.1, S1.ts⟩, K0, K1, (TreP.clr T0), T1, (RgV.an (RgV.an (RgV.dm is next) 0 K0.anchor K0.used) 1 K1.anchor K1.used), (RgV.an (RgV.an (RgV.dm is next) 0 K0.anchor K0.used) 1 K1.anchor K1.used), (RgV.an (RgV.an (RgV.dm is next) 0 K0.anchor K0.used) 1 K1.anchor K1.used)⟩, 0) := by
  unfold hm0
  rw [if_pos (by rw [← eH0]; exact c0.e), ← eH0]
 have c1 := hm_ok c0.fine (d := 1) (.inr rfl) hs1.un hs1.ok
 obtain ⟨H1, eH1⟩ : ∃ H, H = hmG H0.1 1 T1.sheet := ⟨_, rfl⟩
 rw [← eH1] at c1
 have rH1 : H1.1 = wrK H0.1 1 (srt T1.sheet) := by rw [eH1, hmG_K c0.fine (.inr rfl) hs1.ok]
 have g1 : hm1 ⟨⟨H0.1, S1.ts⟩, K0, K1, (TreP.clr T0), T1, (RgV.an (RgV.an (RgV.dm is next) 0 K0.anchor K0.used) 1 K1.anchor K1.used), (RgV.an (RgV.an (RgV.dm is next) 0 K0.anchor K0.used) 1 K1.anchor K1.used), (RgV.an (RgV.an (RgV.dm is next) 0 K0.anchor K0.used) 1 K1.anchor K1.used)⟩ = (⟨⟨H1.1, S1.ts⟩, K0, K1, (TreP.clr T0), (TreP.clr T1), (RgV.an (RgV.an (RgV.dm is next) 0 K0.anchor K0.used) 1 K1.anchor K1.used), (RgV.an (RgV.an (RgV.dm is next) 0 K0.anchor K0.used) 1 K1.anchor K1.used), (RgV.an (RgV.an (RgV.dm is next) 0 K0.anchor K0.used) 1 K1.anchor K1.used)⟩, 0) := by
  unfold hm1
  rw [if_pos (by rw [← eH1]; exact c1.e), ← eH1]
 have eq : com01 ⟨s, I0, I1, T0, T1, is, next, yy⟩ = (⟨⟨H1.1, S1.ts⟩, K0, K1, (TreP.clr T0), (TreP.clr T1), (RgV.an (RgV.an (RgV.dm is next) 0 K0.anchor K0.used) 1 K1.anchor K1.used), (RgV.an (RgV.an (RgV.dm is next) 0 K0.anchor K0.used) 1 K1.anchor K1.used), (RgV.an (RgV.an (RgV.dm is next) 0 K0.anchor K0.used) 1 K1.anchor K1.used)⟩, 0) := by unfold com01; rw [f0, bd_pok rfl, f1, bd_pok rfl, f2, bd_pok rfl, f3, bd_pok rfl, g0, bd_pok rfl, g1]
 rw [eq]
 refine ⟨rfl, c1.fine, rfl, o1, ⟨rfl, rfl⟩, ⟨rfl, rfl, rfl⟩, k0, k1, ?_, rfl, rfl, fun j hj => by show nw_ H1.1 0 j = _; rw [c1.off 0 (.inl rfl) (by decide) j, c0.on j hj, b2.nw 0 (.inl rfl) j hj, b1.nw 0 (.inl rfl) j hj, y1.nw 0 (.inl rfl) j hj, y0.nw 0 (.inl rfl) j hj], fun j hj => by show nw_ H1.1 1 j = _; rw [c1.on j hj, c0.off 1 (.inr rfl) (by decide) j, b2.nw 1 (.inr rfl) j hj, b1.nw 1 (.inr rfl) j hj, y1.nw 1 (.inr rfl) j hj, y0.nw 1 (.inr rfl) j hj], ?_, ?_, (by show K0.root = _; rw [if_neg hz0, eK0]; exact appX_root _ _ _), (by show K1.root = _; rw [if_neg hz1, eK1]; exact appX_root _ _ _)⟩
 · have q0 : K0.area = I0.area := by rw [eK0]; exact appX_area _ _ _
   have q1 : K1.area = I1.area := by rw [eK1]; exact appX_area _ _ _
   exact ⟨rfl, by show is.ar0 = (K0.area : Int); rw [q0]; exact hrj.r0, rfl, rfl, by show is.ar1 = (K1.area : Int); rw [q1]; exact hrj.r1, rfl⟩
 · show S1.ts.length ≤ s.ts.length + 2; omega
 · intro C0 C1 hj
   show DK super H1.1 K0 K1 (RgV.an (RgV.an (RgV.dm is next) 0 K0.anchor K0.used) 1 K1.anchor K1.used) (ovl T0.sheet C0) (ovl T1.sheet C1)
   rw [rH1, rH0, rE, rG, r1, r0, eK0, eK1]
   exact dk_01 hj.dk hj0 hj1 i0 i1 hs0.un hs1.un _
end Cmt
end Go.Proofs.YtkjamonkohpcnaaGreat
