/- A commit on a rig that is fine: what it leaves. -/
import Derived.Test.YtkjamonkohpcnaaGreatMz20
import Derived.Test.YtkjamonkohpcnaaGreatMz18
namespace Go.Proofs.YtkjamonkohpcnaaGreat.Cmt
open Go Ev Sha Aes Orc Node Rec Chn Jrn Cau Sto Srt Stg Wld
open Rig (Fnc_takeR RigP Rg rgM readR writeR flushR setRegR z64 app_of tick comes mayE RigA)
open Tree (TreP TreA Tre treM TI Same getS setS updB ShJ)
set_option linter.unusedVariables false
set_option linter.unusedSimpArgs false
set_option maxRecDepth 100000
theorem setG_F {r : RigP} (h : Fine r) {y : RgV} (hy : y.ok) : setG r y = (srF r y.lay, 0) := by
  unfold setG; rw [if_pos hy]
  unfold setRegR; rw [if_neg (by simp [lay_size]), h.tick]; rfl
theorem ste_set {r : RigP} (h : Fine r) {y : RgV} (hy : y.ok) : Ste r (setG r y) := by
  rw [setG_F h hy]
  exact ⟨rfl, fine_sr h _, fun d' _ j _ => nw_sr r y.lay d' j⟩
/-- A journal of device d, its number at most N. -/
structure JI (J : JrP) (d : Nat) (super : ByteArray) (N : Int) : Prop where
  d : J.d = d
  area : J.area ≤ 1
  used : 1 ≤ J.used ∧ J.used ≤ 80
  sq : 0 ≤ J.seq ∧ J.seq ≤ N
  sup : J.super = super
structure ShI (l : List (Int × ByteArray)) : Prop where
  un : (l.map (·.1)).Nodup
  ok : ∀ p ∈ l, 161 ≤ p.1 ∧ p.1 < 288 ∧ p.2.size = 64
theorem chk_of : ∀ {last : Int} {l : List (Int × ByteArray)}, (∀ p ∈ l, last < p.1 ∧ p.1 < 288 ∧ p.2.size = 64) → l.Pairwise (fun x y => x.1 < y.1) → chk last l = true
  | _, [], _, _ => rfl
  | last, p :: t, h, hp => by
    rw [chk_cons, Bool.and_eq_true]
    have hp' := List.pairwise_cons.1 hp
    exact ⟨decide_eq_true (h p List.mem_cons_self), chk_of (fun q hq => ⟨hp'.1 q hq, (h q (List.mem_cons_of_mem _ hq)).2⟩) hp'.2⟩
theorem srt_lt {l : List (Int × ByteArray)} (hn : (l.map (·.1)).Nodup) : (srt l).Pairwise (fun x y => x.1 < y.1) := by
  have h1 := srt_pair l
  have h2 : ((srt l).map (·.1)).Nodup := ((srt_perm l).map (·.1)).nodup_iff.2 hn
  have h3 : (srt l).Pairwise (fun x y => x.1 ≠ y.1) := List.pairwise_map.1 h2
  exact (h1.and h3).imp fun ⟨a, b⟩ => by omega
theorem chkE_of {l : List (Int × ByteArray)} (h : ShI l) (hl : l.length ≤ 64) {seq : Int} (hs : seqOk seq) : chkE seq (srt l) = 0 := by
  unfold chkE
  rw [if_neg (by rw [srt_len]; omega), if_neg (fun hn => hn hs), if_pos]
  refine chk_of (fun p hp => ?_) (srt_lt h.un)
  have := h.ok p ((srt_perm l).mem_iff.1 hp)
  omega
/-- What the register says of journals. -/
structure RJ (y : RgV) (J0 J1 : JrP) : Prop where
  a0 : y.a0 = J0.anchor
  r0 : y.ar0 = J0.area
  u0 : y.u0 = J0.used
  a1 : y.a1 = J1.anchor
  r1 : y.ar1 = J1.area
  u1 : y.u1 = J1.used
theorem an0_ok {y : RgV} (h : y.ok) (a : Dg) {u : Nat} (hu : u ≤ 80) : (RgV.an y 0 a u).ok := by
  unfold RgV.ok at h ⊢
  show Reg.RR y.a1 y.ep y.iv y.ar0 y.ar1 (u : Int) y.u1 y.dirty y.mode y.at_
  exact { h with u00 := by omega, u01 := by omega }
theorem an1_ok {y : RgV} (h : y.ok) (hat : y.at_ = true) (a : Dg) {u : Nat} (hu : u ≤ 80) : (RgV.an y 1 a u).ok := by
  unfold RgV.ok at h ⊢
  show Reg.RR a y.ep y.iv y.ar0 y.ar1 y.u0 (u : Int) y.dirty y.mode y.at_
  rw [hat] at h ⊢
  exact { h with u10 := by omega, u11 := by omega, at2 := (fun hh => nomatch hh), at3 := (fun hh => nomatch hh), at4 := (fun hh => nomatch hh) }
structure ApF (J : JrP) (root : Dg) (l : List (Int × ByteArray)) (s : Rt) : Prop where
  e : (appJ J root l s).2 = 0
  st : Ste s.r ((appJ J root l s).1.r, 0)
  ts : (appJ J root l s).1.ts.length ≤ s.ts.length + 1
  r : (appJ J root l s).1.r = wrN s.r J.d (1 + 80 * J.area + J.used) (recLs (J.seq + 1) root l)
theorem app_fine {J : JrP} {root : Dg} {l : List (Int × ByteArray)} {s : Rt} {d : Nat} {super : ByteArray} {N : Int} (h : Fine s.r) (hJ : JI J d super N) (hd : d ≤ 1) (hN : N + 1 ≤ 4294967295) (hs : ShI l) (hl : l.length ≤ 64) (hr : roomJ J l.length = true) : ApF J root (srt l) s := by
  have hck := chkE_of (seq := J.seq + 1) hs hl (by have := hJ.sq; unfold seqOk; omega)
  have hrm := of_decide_eq_true hr
  have hlen := recLs_len (J.seq + 1) root (srt l)
  have hsl := srt_len l
  have hrl : rlen l.length = 1 + (l.length + 31) / 32 + l.length := by unfold rlen; rw [if_neg (by omega)]
  have ha := hJ.area
  have hw := ste_wrA (r := s.r) h (d := J.d) (by rw [hJ.d]; omega) (at_ := 1 + 80 * J.area + J.used) (l := recLs (J.seq + 1) root (srt l)) (by rw [hlen, hsl]; omega) (recLs_64 hck)
  have e : appJ J root (srt l) s = (⟨(wrA s.r J.d (1 + 80 * J.area + J.used) (recLs (J.seq + 1) root (srt l))).1, addT s.ts (nextSs J.anchor (recLs (J.seq + 1) root (srt l)))⟩, 0) := by unfold appJ; exact if_pos hw.e
  refine ⟨by rw [e], ⟨rfl, ?_, ?_⟩, ?_, ?_⟩
  · rw [e]; exact hw.fine
  · rw [e]; exact hw.nw
  · rw [e]; exact addT_len _ _
  · rw [e]
    show (wrA s.r J.d (1 + 80 * J.area + J.used) (recLs (J.seq + 1) root (srt l))).1 = _
    rw [wrA_N h (by rw [hJ.d]; omega) (by rw [hlen, hsl]; omega) (recLs_64 hck)]
theorem appX_ji {J : JrP} {root : Dg} {l : List (Int × ByteArray)} {d : Nat} {super : ByteArray} {N : Int} (hJ : JI J d super N) (hl : l.length ≤ 64) (hr : roomJ J l.length = true) : JI (appX J root (srt l) 0) d super (N + 1) := by
  have hrm := of_decide_eq_true hr
  have hlen := recLs_len (J.seq + 1) root (srt l)
  have hsl := srt_len l
  have hrl : rlen l.length = 1 + (l.length + 31) / 32 + l.length := by unfold rlen; rw [if_neg (by omega)]
  have hq := hJ.sq
  have hu := hJ.used
  have e : appX J root (srt l) 0 = addJs J (J.seq + 1) root (recLs (J.seq + 1) root (srt l)) := if_pos rfl
  rw [e]
  refine ⟨hJ.d, hJ.area, ⟨?_, ?_⟩, ⟨?_, ?_⟩, hJ.sup⟩
  · show 1 ≤ J.used + _; omega
  · show J.used + (recLs (J.seq + 1) root (srt l)).length ≤ 80; rw [hlen, hsl]; omega
  · show 0 ≤ J.seq + 1; omega
  · show J.seq + 1 ≤ N + 1; omega
structure DK (super : ByteArray) (r : RigP) (J0 J1 : JrP) (y : RgV) (C0 C1 : Nat → ByteArray) : Prop where
  d0 : ∃ R, DR r J0 0 super R C0
  d1 : ∃ R, DR r J1 1 super R C1
  sp : SP r super
  rg : r.reg = y.lay
structure DJ (super : ByteArray) (r : RigP) (J0 J1 : JrP) (y : RgV) (C0 C1 : Nat → ByteArray) : Prop where
  dk : DK super r J0 J1 y C0 C1
  n0 : ∀ j, 161 ≤ j → j < 288 → nw_ r 0 j = C0 j
  n1 : ∀ j, 161 ≤ j → j < 288 → nw_ r 1 j = C1 j
theorem DK.sr {super : ByteArray} {r : RigP} {J0 J1 : JrP} {y : RgV} {C0 C1 : Nat → ByteArray} (h : DK super r J0 J1 y C0 C1) (Y : RgV) : DK super (srF r Y.lay) J0 J1 Y C0 C1 := by
  obtain ⟨⟨R0, d0⟩, ⟨R1, d1⟩, sp, rg⟩ := h
  exact ⟨⟨R0, d0.sr _⟩, ⟨R1, d1.sr _⟩, sp.sr _, rfl⟩
structure AppI (J : JrP) (root : Dg) (l : List (Int × ByteArray)) : Prop where
  ck : chkE (J.seq + 1) (srt l) = 0
  us : J.used + (recLs (J.seq + 1) root (srt l)).length ≤ 80
  kb : ∀ p ∈ srt l, 161 ≤ p.1
  nd : ((srt l).map (·.1)).Nodup
  e : appX J root (srt l) 0 = jadd_ J ⟨J.seq + 1, root, srt l⟩
  u2 : (jadd_ J ⟨J.seq + 1, root, srt l⟩).used ≤ 80
theorem appI {J : JrP} {root : Dg} {l : List (Int × ByteArray)} {d : Nat} {super : ByteArray} {N : Int} (hJ : JI J d super N) (hN : N + 1 ≤ 4294967295) (hs : ShI l) (hl : l.length ≤ 64) (hr : roomJ J l.length = true) : AppI J root l := by
  have hck := chkE_of (seq := J.seq + 1) hs hl (by have := hJ.sq; unfold seqOk; omega)
  have hrm := of_decide_eq_true hr
  have hlen := recLs_len (J.seq + 1) root (srt l)
  have hsl := srt_len l
  have hrl : rlen l.length = 1 + (l.length + 31) / 32 + l.length := by unfold rlen; rw [if_neg (by omega)]
  have hu : J.used + (recLs (J.seq + 1) root (srt l)).length ≤ 80 := by rw [hlen, hsl]; omega
  exact ⟨hck, hu, fun p hp => (hs.ok p ((srt_perm l).mem_iff.1 hp)).1, ((srt_perm l).map (·.1)).nodup_iff.2 hs.un, if_pos rfl, hu⟩
theorem pend {r : RigP} {d : Int} (hd : d = 0 ∨ d = 1) (at_ : Nat) (l : List ByteArray) : ∀ i, i < l.length → nw_ (wrN r d at_ l) d (at_ + i) = (l[i]?).getD ByteArray.empty := fun i hi => by
  rw [nw_wrN hd hd (at_ + i) l at_ r, if_pos ⟨rfl, by omega, by omega⟩, Nat.add_sub_cancel_left]
theorem dk_0 {super : ByteArray} {r : RigP} {J0 J1 : JrP} {y : RgV} {C0 C1 : Nat → ByteArray} {root : Dg} {l : List (Int × ByteArray)} {N : Int} (h : DK super r J0 J1 y C0 C1) (k0 : JI J0 0 super N) (k1 : JI J1 1 super N) (ai : AppI J0 root l) (hn : (l.map (·.1)).Nodup) (Y : RgV) :
    DK super (wrK (srF (flN (wrN r 0 (1 + 80 * J0.area + J0.used) (recLs (J0.seq + 1) root (srt l))) [0]) Y.lay) 0 (srt l)) (appX J0 root (srt l) 0) J1 Y (ovl l C0) C1 := by
  obtain ⟨⟨R0, d0⟩, ⟨R1, d1⟩, sp, rg⟩ := h
  have us := ai.us
  have ar := k0.area
  have are := k1.area
  have ue := k1.used
  have a1 := d0.wr (d' := 0) (i := 1 + 80 * J0.area + J0.used) (l := recLs (J0.seq + 1) root (srt l)) (by decide) (.inl rfl) (by omega) (fun _ => .inr (Nat.le_refl _))
  have b1 := d1.wrO (d' := 0) (by decide) (.inl rfl) (by decide) (recLs (J0.seq + 1) root (srt l)) (1 + 80 * J0.area + J0.used)
  have a2 := a1.appF (x := ⟨J0.seq + 1, root, srt l⟩) (by decide) ai.ck rfl (pend (r := r) (d := 0) (.inl rfl) (1 + 80 * J0.area + J0.used) (recLs (J0.seq + 1) root (srt l)))
  have b2 := b1.fl (d' := 0) (by decide) (.inl rfl)
  have a3 := a2.sr Y.lay
  have b3 := b2.sr Y.lay
  have a4 := a3.hmS (d' := 0) (l := srt l) (by decide) (.inl rfl) ai.kb (fun _ p hp j hj => ovl_in ai.nd C0 hp hj) ai.u2 ar
  have b4 := b3.hmS (d' := 0) (l := srt l) (by decide) (.inl rfl) ai.kb (fun g => absurd g (by decide)) (by omega) are
  rw [ai.e, ← ovl_srt hn C0]
  refine ⟨⟨_, a4⟩, ⟨_, b4⟩, ((sp.wr (.inl rfl) (by omega) _).fl (.inl rfl)).sr _ |>.hm (.inl rfl) ai.kb, ?_⟩
  rw [reg_wrK]; rfl
theorem dk_1 {super : ByteArray} {r : RigP} {J0 J1 : JrP} {y : RgV} {C0 C1 : Nat → ByteArray} {root : Dg} {l : List (Int × ByteArray)} {N : Int} (h : DK super r J0 J1 y C0 C1) (k0 : JI J0 0 super N) (k1 : JI J1 1 super N) (ai : AppI J1 root l) (hn : (l.map (·.1)).Nodup) (Y : RgV) :
    DK super (wrK (srF (flN (wrN r 1 (1 + 80 * J1.area + J1.used) (recLs (J1.seq + 1) root (srt l))) [1]) Y.lay) 1 (srt l)) J0 (appX J1 root (srt l) 0) Y C0 (ovl l C1) := by
  obtain ⟨⟨R0, d0⟩, ⟨R1, d1⟩, sp, rg⟩ := h
  have us := ai.us
  have ar := k1.area
  have are := k0.area
  have ue := k0.used
  have a1 := d1.wr (d' := 1) (i := 1 + 80 * J1.area + J1.used) (l := recLs (J1.seq + 1) root (srt l)) (by decide) (.inr rfl) (by omega) (fun _ => .inr (Nat.le_refl _))
  have b1 := d0.wrO (d' := 1) (by decide) (.inr rfl) (by decide) (recLs (J1.seq + 1) root (srt l)) (1 + 80 * J1.area + J1.used)
  have a2 := a1.appF (x := ⟨J1.seq + 1, root, srt l⟩) (by decide) ai.ck rfl (pend (r := r) (d := 1) (.inr rfl) (1 + 80 * J1.area + J1.used) (recLs (J1.seq + 1) root (srt l)))
  have b2 := b1.fl (d' := 1) (by decide) (.inr rfl)
  have a3 := a2.sr Y.lay
  have b3 := b2.sr Y.lay
  have a4 := a3.hmS (d' := 1) (l := srt l) (by decide) (.inr rfl) ai.kb (fun _ p hp j hj => ovl_in ai.nd C1 hp hj) ai.u2 ar
  have b4 := b3.hmS (d' := 1) (l := srt l) (by decide) (.inr rfl) ai.kb (fun g => absurd g (by decide)) (by omega) are
  rw [ai.e, ← ovl_srt hn C1]
  refine ⟨⟨_, b4⟩, ⟨_, a4⟩, ((sp.wr (.inr rfl) (by omega) _).fl (.inr rfl)).sr _ |>.hm (.inr rfl) ai.kb, ?_⟩
  rw [reg_wrK]; rfl
theorem dk_01 {super : ByteArray} {r : RigP} {J0 J1 : JrP} {y : RgV} {C0 C1 : Nat → ByteArray} {root0 root1 : Dg} {l0 l1 : List (Int × ByteArray)} {N : Int} (h : DK super r J0 J1 y C0 C1) (k0 : JI J0 0 super N) (k1 : JI J1 1 super N) (i0 : AppI J0 root0 l0) (i1 : AppI J1 root1 l1) (hn0 : (l0.map (·.1)).Nodup) (hn1 : (l1.map (·.1)).Nodup) (Y : RgV) :
    DK super (wrK (wrK (srF (flN (wrN (wrN r 0 (1 + 80 * J0.area + J0.used) (recLs (J0.seq + 1) root0 (srt l0))) 1 (1 + 80 * J1.area + J1.used) (recLs (J1.seq + 1) root1 (srt l1))) [0, 1]) Y.lay) 0 (srt l0)) 1 (srt l1)) (appX J0 root0 (srt l0) 0) (appX J1 root1 (srt l1) 0) Y (ovl l0 C0) (ovl l1 C1) := by
  obtain ⟨⟨R0, d0⟩, ⟨R1, d1⟩, sp, rg⟩ := h
  have us0 := i0.us
  have us1 := i1.us
  have ar0 := k0.area
  have ar1 := k1.area
  have a1 := d0.wr (d' := 0) (i := 1 + 80 * J0.area + J0.used) (l := recLs (J0.seq + 1) root0 (srt l0)) (by decide) (.inl rfl) (by omega) (fun _ => .inr (Nat.le_refl _))
  have b1 := d1.wrO (d' := 0) (by decide) (.inl rfl) (by decide) (recLs (J0.seq + 1) root0 (srt l0)) (1 + 80 * J0.area + J0.used)
  have a2 := a1.wrO (d' := 1) (by decide) (.inr rfl) (by decide) (recLs (J1.seq + 1) root1 (srt l1)) (1 + 80 * J1.area + J1.used)
  have b2 := b1.wr (d' := 1) (i := 1 + 80 * J1.area + J1.used) (l := recLs (J1.seq + 1) root1 (srt l1)) (by decide) (.inr rfl) (by omega) (fun _ => .inr (Nat.le_refl _))
  have p0 := pend (r := r) (d := 0) (.inl rfl) (1 + 80 * J0.area + J0.used) (recLs (J0.seq + 1) root0 (srt l0))
  have p1 := pend (r := wrN r 0 (1 + 80 * J0.area + J0.used) (recLs (J0.seq + 1) root0 (srt l0))) (d := 1) (.inr rfl) (1 + 80 * J1.area + J1.used) (recLs (J1.seq + 1) root1 (srt l1))
  have a3 := a2.appF (x := ⟨J0.seq + 1, root0, srt l0⟩) (by decide) i0.ck rfl (fun i hi => by
    refine (nw_wrN (d := 1) (.inr rfl) (d' := ((0 : Nat) : Int)) (.inl rfl) _ (recLs (J1.seq + 1) root1 (srt l1)) (1 + 80 * J1.area + J1.used) _).trans ?_
    rw [if_neg (fun g => absurd g.1 (by decide))]
    exact p0 i hi)
  have b3 := b2.fl (d' := 0) (by decide) (.inl rfl)
  have a4 := a3.fl (d' := 1) (by decide) (.inr rfl)
  have b4 := b3.appF (x := ⟨J1.seq + 1, root1, srt l1⟩) (by decide) i1.ck rfl (fun i hi => by
    rw [nw_fl _ 0 ((1 : Nat) : Int) _ (.inl rfl) (.inr rfl)]
    exact p1 i hi)
  have a5 := (a4.sr Y.lay).hmS (d' := 0) (l := srt l0) (by decide) (.inl rfl) i0.kb (fun _ p hp j hj => ovl_in i0.nd C0 hp hj) i0.u2 ar0
  have b5 := (b4.sr Y.lay).hmS (d' := 0) (l := srt l0) (by decide) (.inl rfl) i0.kb (fun g => absurd g (by decide)) i1.u2 ar1
  have a6 := a5.hmS (d' := 1) (l := srt l1) (by decide) (.inr rfl) i1.kb (fun g => absurd g (by decide)) i0.u2 ar0
  have b6 := b5.hmS (d' := 1) (l := srt l1) (by decide) (.inr rfl) i1.kb (fun _ p hp j hj => ovl_in i1.nd C1 hp hj) i1.u2 ar1
  rw [i0.e, i1.e, ← ovl_srt hn0 C0, ← ovl_srt hn1 C1]
  refine ⟨⟨_, a6⟩, ⟨_, b6⟩, ((((((sp.wr (d := 0) (.inl rfl) (by omega) (recLs (J0.seq + 1) root0 (srt l0))).wr (d := 1) (.inr rfl) (by omega) (recLs (J1.seq + 1) root1 (srt l1))).fl (d := 0) (.inl rfl)).fl (d := 1) (.inr rfl)).sr Y.lay).hm (d := 0) (.inl rfl) i0.kb).hm (d := 1) (.inr rfl) i1.kb, ?_⟩
  rw [reg_wrK, reg_wrK]; rfl
/-- What a commit begins with. -/
structure CI (super : ByteArray) (c : Cx) (N : Int) : Prop where
  fine : Fine c.s.r
  at_ : c.is.at_ = true
  iok : c.is.ok
  ok : (RgV.dm c.is c.next).ok
  j0 : JI c.j0 0 super N
  j1 : JI c.j1 1 super N
  rj : RJ c.is c.j0 c.j1
  s0 : ShI c.t0.sheet
  s1 : ShI c.t1.sheet
  l0 : c.t0.sheet.length ≤ 64
  l1 : c.t1.sheet.length ≤ 64
/-- What it leaves. -/
structure CO (super : ByteArray) (c : Cx) (N : Int) (q : Cx × Int) (k : Nat) : Prop where
  e : q.2 = 0
  fine : Fine q.1.s.r
  nx : q.1.next = q.1.is
  ok : q.1.is.ok
  dy : q.1.is.dirty = c.next.dirty ∧ q.1.is.mode = c.next.mode
  sm : q.1.is.at_ = c.is.at_ ∧ q.1.is.iv = c.is.iv ∧ q.1.is.ep = c.is.ep
  j0 : JI q.1.j0 0 super (N + 1)
  j1 : JI q.1.j1 1 super (N + 1)
  rj : RJ q.1.is q.1.j0 q.1.j1
  t0 : q.1.t0 = TreP.clr c.t0
  t1 : q.1.t1 = TreP.clr c.t1
  n0 : ∀ j : Nat, 161 ≤ j → nw_ q.1.s.r 0 j = (getS c.t0.sheet j).getD (nw_ c.s.r 0 j)
  n1 : ∀ j : Nat, 161 ≤ j → nw_ q.1.s.r 1 j = (getS c.t1.sheet j).getD (nw_ c.s.r 1 j)
  ts : q.1.s.ts.length ≤ c.s.ts.length + k
  dk : ∀ C0 C1, DJ super c.s.r c.j0 c.j1 c.is C0 C1 → DK super q.1.s.r q.1.j0 q.1.j1 q.1.is (ovl c.t0.sheet C0) (ovl c.t1.sheet C1)
  rt0 : q.1.j0.root = if c.t0.sheet = [] then c.j0.root else c.t0.root
  rt1 : q.1.j1.root = if c.t1.sheet = [] then c.j1.root else c.t1.root
theorem CO.dj {super : ByteArray} {c : Cx} {N : Int} {q : Cx × Int} {k : Nat} (h : CO super c N q k) {C0 C1 : Nat → ByteArray} (hj : DJ super c.s.r c.j0 c.j1 c.is C0 C1) : DJ super q.1.s.r q.1.j0 q.1.j1 q.1.is (ovl c.t0.sheet C0) (ovl c.t1.sheet C1) :=
  ⟨h.dk C0 C1 hj, fun j h1 h2 => by rw [h.n0 j h1, hj.n0 j h1 h2]; rfl, fun j h1 h2 => by rw [h.n1 j h1, hj.n1 j h1 h2]; rfl⟩
theorem JI.more {J : JrP} {d : Nat} {super : ByteArray} {N : Int} (h : JI J d super N) : JI J d super (N + 1) := ⟨h.d, h.area, h.used, ⟨h.sq.1, by have := h.sq.2; omega⟩, h.sup⟩
theorem clr_nil {t : TreP} (h : t.sheet = []) : TreP.clr t = t := by unfold TreP.clr; rw [← h]
theorem getS_nil (j : Int) : getS [] j = none := rfl
theorem appX_area (J : JrP) (root : Dg) (l : List (Int × ByteArray)) : (appX J root l 0).area = J.area := by unfold appX; rw [if_pos rfl]; rfl
theorem appX_root (J : JrP) (root : Dg) (l : List (Int × ByteArray)) : (appX J root l 0).root = root := by unfold appX; rw [if_pos rfl]; rfl
attribute [local irreducible] appJ appX hmG setG srt roomJ
set_option maxHeartbeats 2000000 in
theorem com0_ok {super : ByteArray} {c : Cx} {N : Int} (h : CI super c N) (hN : N + 1 ≤ 4294967295) (hr0 : roomJ c.j0 c.t0.sheet.length = true) (hz0 : c.t0.sheet ≠ []) (he1 : c.t1.sheet = []) : CO super c N (com0 c) 2 := by
  obtain ⟨s, I0, I1, T0, T1, is, next, yy⟩ := c
  obtain ⟨hf, hat, hiok, hok, hj0, hj1, hrj, hs0, hs1, hl0, hl1⟩ := h
  dsimp only at *
  have a0 := app_fine (root := T0.root) (s := s) hf hj0 (by omega) hN hs0 hl0 hr0
  have k0 := appX_ji (root := T0.root) hj0 hl0 hr0
  obtain ⟨S0, eS0⟩ : ∃ S, S = (appJ I0 T0.root (srt T0.sheet) s).1 := ⟨_, rfl⟩
  obtain ⟨K0, eK0⟩ : ∃ K, K = appX I0 T0.root (srt T0.sheet) 0 := ⟨_, rfl⟩
  have x0 := a0.e
  have y0 := a0.st
  have z0 := a0.ts
  have r0 := a0.r
  rw [hj0.d] at r0
  have i0 := appI (root := T0.root) hj0 hN hs0 hl0 hr0
  rw [← eS0] at y0 z0 r0
  rw [← eK0] at k0
  have f0 : ap0 (Cx.go ⟨s, I0, I1, T0, T1, is, next, yy⟩) = (⟨S0, K0, I1, T0, T1, is, next, (RgV.an (RgV.dm is next) 0 K0.anchor K0.used)⟩, 0) := by
    rw [eS0, eK0]
    unfold ap0
    exact if_pos x0
  have o0 : RgV.ok (RgV.an (RgV.dm is next) 0 K0.anchor K0.used) := an0_ok hok _ k0.used.2
  have b1 := ste_fl (l := [0]) y0.fine (by decide)
  obtain ⟨G, eG⟩ : ∃ G, G = lp (flG [0]) [0].length 0 S0.r := ⟨_, rfl⟩
  rw [← eG] at b1
  have b2 := ste_set b1.fine o0
  obtain ⟨E, eE⟩ : ∃ E, E = setG G.1 (RgV.an (RgV.dm is next) 0 K0.anchor K0.used) := ⟨_, rfl⟩
  rw [← eE] at b2
  have rG : G.1 = flN S0.r [0] := by rw [eG, flG_N y0.fine (by decide)]
  have rE : E.1 = srF G.1 (RgV.lay (RgV.an (RgV.dm is next) 0 K0.anchor K0.used)) := by rw [eE, setG_F b1.fine o0]
  have f2 : flC [0] ⟨S0, K0, I1, T0, T1, is, next, (RgV.an (RgV.dm is next) 0 K0.anchor K0.used)⟩ = (⟨⟨G.1, S0.ts⟩, K0, I1, T0, T1, is, next, (RgV.an (RgV.dm is next) 0 K0.anchor K0.used)⟩, 0) := by
    unfold flC
    rw [← eG, b1.e]
  have f3 : sayC ⟨⟨G.1, S0.ts⟩, K0, I1, T0, T1, is, next, (RgV.an (RgV.dm is next) 0 K0.anchor K0.used)⟩ = (⟨⟨E.1, S0.ts⟩, K0, I1, T0, T1, (RgV.an (RgV.dm is next) 0 K0.anchor K0.used), (RgV.an (RgV.dm is next) 0 K0.anchor K0.used), (RgV.an (RgV.dm is next) 0 K0.anchor K0.used)⟩, 0) := by
    unfold sayC
    rw [if_pos (by rw [← eE]; exact b2.e), ← eE]
  have c0 := hm_ok b2.fine (d := 0) (.inl rfl) hs0.un hs0.ok
  obtain ⟨H0, eH0⟩ : ∃ H, H = hmG E.1 0 T0.sheet := ⟨_, rfl⟩
  rw [← eH0] at c0
  have rH0 : H0.1 = wrK E.1 0 (srt T0.sheet) := by rw [eH0, hmG_K b2.fine (.inl rfl) hs0.ok]
  have g0 : hm0 ⟨⟨E.1, S0.ts⟩, K0, I1, T0, T1, (RgV.an (RgV.dm is next) 0 K0.anchor K0.used), (RgV.an (RgV.dm is next) 0 K0.anchor K0.used), (RgV.an (RgV.dm is next) 0 K0.anchor K0.used)⟩ = (⟨⟨H0.1, S0.ts⟩, K0, I1, (TreP.clr T0), T1, (RgV.an (RgV.dm is next) 0 K0.anchor K0.used), (RgV.an (RgV.dm is next) 0 K0.anchor K0.used), (RgV.an (RgV.dm is next) 0 K0.anchor K0.used)⟩, 0) := by
    unfold hm0
    rw [if_pos (by rw [← eH0]; exact c0.e), ← eH0]
  have eq : com0 ⟨s, I0, I1, T0, T1, is, next, yy⟩ = (⟨⟨H0.1, S0.ts⟩, K0, I1, (TreP.clr T0), T1, (RgV.an (RgV.dm is next) 0 K0.anchor K0.used), (RgV.an (RgV.dm is next) 0 K0.anchor K0.used), (RgV.an (RgV.dm is next) 0 K0.anchor K0.used)⟩, 0) := by unfold com0; rw [f0, bd_pok rfl, f2, bd_pok rfl, f3, bd_pok rfl, g0]
  rw [eq]
  refine ⟨rfl, c0.fine, rfl, o0, ⟨rfl, rfl⟩, ⟨rfl, rfl, rfl⟩, k0, hj1.more, ?_, rfl, (clr_nil he1).symm, fun j hj => by show nw_ H0.1 0 j = _; rw [c0.on j hj, b2.nw 0 (.inl rfl) j hj, b1.nw 0 (.inl rfl) j hj, y0.nw 0 (.inl rfl) j hj], fun j hj => by show nw_ H0.1 1 j = _; rw [c0.off 1 (.inr rfl) (by decide) j, b2.nw 1 (.inr rfl) j hj, b1.nw 1 (.inr rfl) j hj, y0.nw 1 (.inr rfl) j hj]; rw [he1, getS_nil]; rfl, ?_, ?_, (by show K0.root = _; rw [if_neg hz0, eK0]; exact appX_root _ _ _), (by rw [if_pos he1])⟩
  · have q0 : K0.area = I0.area := by rw [eK0]; exact appX_area _ _ _
    exact ⟨rfl, by show is.ar0 = (K0.area : Int); rw [q0]; exact hrj.r0, rfl, hrj.a1, hrj.r1, hrj.u1⟩
  · show S0.ts.length ≤ s.ts.length + 2; omega
  · intro C0 C1 hj
    show DK super H0.1 K0 I1 (RgV.an (RgV.dm is next) 0 K0.anchor K0.used) (ovl T0.sheet C0) (ovl T1.sheet C1)
    rw [rH0, rE, rG, r0, eK0, he1]
    exact dk_0 hj.dk hj0 hj1 i0 hs0.un _
set_option maxHeartbeats 2000000 in
theorem com1_ok {super : ByteArray} {c : Cx} {N : Int} (h : CI super c N) (hN : N + 1 ≤ 4294967295) (hr1 : roomJ c.j1 c.t1.sheet.length = true) (hz1 : c.t1.sheet ≠ []) (he0 : c.t0.sheet = []) : CO super c N (com1 c) 2 := by
  obtain ⟨s, I0, I1, T0, T1, is, next, yy⟩ := c
  obtain ⟨hf, hat, hiok, hok, hj0, hj1, hrj, hs0, hs1, hl0, hl1⟩ := h
  dsimp only at *
  have a1 := app_fine (root := T1.root) (s := s) hf hj1 (by omega) hN hs1 hl1 hr1
  have k1 := appX_ji (root := T1.root) hj1 hl1 hr1
  obtain ⟨S1, eS1⟩ : ∃ S, S = (appJ I1 T1.root (srt T1.sheet) s).1 := ⟨_, rfl⟩
  obtain ⟨K1, eK1⟩ : ∃ K, K = appX I1 T1.root (srt T1.sheet) 0 := ⟨_, rfl⟩
  have x1 := a1.e
  have y1 := a1.st
  have z1 := a1.ts
  have r1 := a1.r
  rw [hj1.d] at r1
  have i1 := appI (root := T1.root) hj1 hN hs1 hl1 hr1
  rw [← eS1] at y1 z1 r1
  rw [← eK1] at k1
  have f1 : ap1 (Cx.go ⟨s, I0, I1, T0, T1, is, next, yy⟩) = (⟨S1, I0, K1, T0, T1, is, next, (RgV.an (RgV.dm is next) 1 K1.anchor K1.used)⟩, 0) := by
    rw [eS1, eK1]
    unfold ap1
    exact if_pos x1
  have o1 : RgV.ok (RgV.an (RgV.dm is next) 1 K1.anchor K1.used) := an1_ok hok hat _ k1.used.2
  have b1 := ste_fl (l := [1]) y1.fine (by decide)
  obtain ⟨G, eG⟩ : ∃ G, G = lp (flG [1]) [1].length 0 S1.r := ⟨_, rfl⟩
  rw [← eG] at b1
  have b2 := ste_set b1.fine o1
  obtain ⟨E, eE⟩ : ∃ E, E = setG G.1 (RgV.an (RgV.dm is next) 1 K1.anchor K1.used) := ⟨_, rfl⟩
  rw [← eE] at b2
  have rG : G.1 = flN S1.r [1] := by rw [eG, flG_N y1.fine (by decide)]
  have rE : E.1 = srF G.1 (RgV.lay (RgV.an (RgV.dm is next) 1 K1.anchor K1.used)) := by rw [eE, setG_F b1.fine o1]
  have f2 : flC [1] ⟨S1, I0, K1, T0, T1, is, next, (RgV.an (RgV.dm is next) 1 K1.anchor K1.used)⟩ = (⟨⟨G.1, S1.ts⟩, I0, K1, T0, T1, is, next, (RgV.an (RgV.dm is next) 1 K1.anchor K1.used)⟩, 0) := by
    unfold flC
    rw [← eG, b1.e]
  have f3 : sayC ⟨⟨G.1, S1.ts⟩, I0, K1, T0, T1, is, next, (RgV.an (RgV.dm is next) 1 K1.anchor K1.used)⟩ = (⟨⟨E.1, S1.ts⟩, I0, K1, T0, T1, (RgV.an (RgV.dm is next) 1 K1.anchor K1.used), (RgV.an (RgV.dm is next) 1 K1.anchor K1.used), (RgV.an (RgV.dm is next) 1 K1.anchor K1.used)⟩, 0) := by
    unfold sayC
    rw [if_pos (by rw [← eE]; exact b2.e), ← eE]
  have c1 := hm_ok b2.fine (d := 1) (.inr rfl) hs1.un hs1.ok
  obtain ⟨H1, eH1⟩ : ∃ H, H = hmG E.1 1 T1.sheet := ⟨_, rfl⟩
  rw [← eH1] at c1
  have rH1 : H1.1 = wrK E.1 1 (srt T1.sheet) := by rw [eH1, hmG_K b2.fine (.inr rfl) hs1.ok]
  have g1 : hm1 ⟨⟨E.1, S1.ts⟩, I0, K1, T0, T1, (RgV.an (RgV.dm is next) 1 K1.anchor K1.used), (RgV.an (RgV.dm is next) 1 K1.anchor K1.used), (RgV.an (RgV.dm is next) 1 K1.anchor K1.used)⟩ = (⟨⟨H1.1, S1.ts⟩, I0, K1, T0, (TreP.clr T1), (RgV.an (RgV.dm is next) 1 K1.anchor K1.used), (RgV.an (RgV.dm is next) 1 K1.anchor K1.used), (RgV.an (RgV.dm is next) 1 K1.anchor K1.used)⟩, 0) := by
    unfold hm1
    rw [if_pos (by rw [← eH1]; exact c1.e), ← eH1]
  have eq : com1 ⟨s, I0, I1, T0, T1, is, next, yy⟩ = (⟨⟨H1.1, S1.ts⟩, I0, K1, T0, (TreP.clr T1), (RgV.an (RgV.dm is next) 1 K1.anchor K1.used), (RgV.an (RgV.dm is next) 1 K1.anchor K1.used), (RgV.an (RgV.dm is next) 1 K1.anchor K1.used)⟩, 0) := by unfold com1; rw [f1, bd_pok rfl, f2, bd_pok rfl, f3, bd_pok rfl, g1]
  rw [eq]
  refine ⟨rfl, c1.fine, rfl, o1, ⟨rfl, rfl⟩, ⟨rfl, rfl, rfl⟩, hj0.more, k1, ?_, (clr_nil he0).symm, rfl, fun j hj => by show nw_ H1.1 0 j = _; rw [c1.off 0 (.inl rfl) (by decide) j, b2.nw 0 (.inl rfl) j hj, b1.nw 0 (.inl rfl) j hj, y1.nw 0 (.inl rfl) j hj]; rw [he0, getS_nil]; rfl, fun j hj => by show nw_ H1.1 1 j = _; rw [c1.on j hj, b2.nw 1 (.inr rfl) j hj, b1.nw 1 (.inr rfl) j hj, y1.nw 1 (.inr rfl) j hj], ?_, ?_, (by rw [if_pos he0]), (by show K1.root = _; rw [if_neg hz1, eK1]; exact appX_root _ _ _)⟩
  · have q1 : K1.area = I1.area := by rw [eK1]; exact appX_area _ _ _
    exact ⟨hrj.a0, hrj.r0, hrj.u0, rfl, by show is.ar1 = (K1.area : Int); rw [q1]; exact hrj.r1, rfl⟩
  · show S1.ts.length ≤ s.ts.length + 2; omega
  · intro C0 C1 hj
    show DK super H1.1 I0 K1 (RgV.an (RgV.dm is next) 1 K1.anchor K1.used) (ovl T0.sheet C0) (ovl T1.sheet C1)
    rw [rH1, rE, rG, r1, eK1, he0]
    exact dk_1 hj.dk hj0 hj1 i1 hs1.un _
set_option maxHeartbeats 2000000 in
theorem com01_ok {super : ByteArray} {c : Cx} {N : Int} (h : CI super c N) (hN : N + 1 ≤ 4294967295) (hr0 : roomJ c.j0 c.t0.sheet.length = true) (hz0 : c.t0.sheet ≠ []) (hr1 : roomJ c.j1 c.t1.sheet.length = true) (hz1 : c.t1.sheet ≠ [])  : CO super c N (com01 c) 2 := by
  obtain ⟨s, I0, I1, T0, T1, is, next, yy⟩ := c
  obtain ⟨hf, hat, hiok, hok, hj0, hj1, hrj, hs0, hs1, hl0, hl1⟩ := h
  dsimp only at *
  have a0 := app_fine (root := T0.root) (s := s) hf hj0 (by omega) hN hs0 hl0 hr0
  have k0 := appX_ji (root := T0.root) hj0 hl0 hr0
  obtain ⟨S0, eS0⟩ : ∃ S, S = (appJ I0 T0.root (srt T0.sheet) s).1 := ⟨_, rfl⟩
  obtain ⟨K0, eK0⟩ : ∃ K, K = appX I0 T0.root (srt T0.sheet) 0 := ⟨_, rfl⟩
  have x0 := a0.e
  have y0 := a0.st
  have z0 := a0.ts
  have r0 := a0.r
  rw [hj0.d] at r0
  have i0 := appI (root := T0.root) hj0 hN hs0 hl0 hr0
  rw [← eS0] at y0 z0 r0
  rw [← eK0] at k0
  have f0 : ap0 (Cx.go ⟨s, I0, I1, T0, T1, is, next, yy⟩) = (⟨S0, K0, I1, T0, T1, is, next, (RgV.an (RgV.dm is next) 0 K0.anchor K0.used)⟩, 0) := by
    rw [eS0, eK0]
    unfold ap0
    exact if_pos x0
  have o0 : RgV.ok (RgV.an (RgV.dm is next) 0 K0.anchor K0.used) := an0_ok hok _ k0.used.2
  have a1 := app_fine (root := T1.root) (s := S0) y0.fine hj1 (by omega) hN hs1 hl1 hr1
  have k1 := appX_ji (root := T1.root) hj1 hl1 hr1
  obtain ⟨S1, eS1⟩ : ∃ S, S = (appJ I1 T1.root (srt T1.sheet) S0).1 := ⟨_, rfl⟩
  obtain ⟨K1, eK1⟩ : ∃ K, K = appX I1 T1.root (srt T1.sheet) 0 := ⟨_, rfl⟩
  have x1 := a1.e
  have y1 := a1.st
  have z1 := a1.ts
  have r1 := a1.r
  rw [hj1.d] at r1
  have i1 := appI (root := T1.root) hj1 hN hs1 hl1 hr1
  rw [← eS1] at y1 z1 r1
  rw [← eK1] at k1
  have f1 : ap1 ⟨S0, K0, I1, T0, T1, is, next, (RgV.an (RgV.dm is next) 0 K0.anchor K0.used)⟩ = (⟨S1, K0, K1, T0, T1, is, next, (RgV.an (RgV.an (RgV.dm is next) 0 K0.anchor K0.used) 1 K1.anchor K1.used)⟩, 0) := by
    rw [eS1, eK1]
    unfold ap1
    exact if_pos x1
  have o1 : RgV.ok (RgV.an (RgV.an (RgV.dm is next) 0 K0.anchor K0.used) 1 K1.anchor K1.used) := an1_ok o0 hat _ k1.used.2
  have b1 := ste_fl (l := [0, 1]) y1.fine (by decide)
  obtain ⟨G, eG⟩ : ∃ G, G = lp (flG [0, 1]) [0, 1].length 0 S1.r := ⟨_, rfl⟩
  rw [← eG] at b1
  have b2 := ste_set b1.fine o1
  obtain ⟨E, eE⟩ : ∃ E, E = setG G.1 (RgV.an (RgV.an (RgV.dm is next) 0 K0.anchor K0.used) 1 K1.anchor K1.used) := ⟨_, rfl⟩
  rw [← eE] at b2
  have rG : G.1 = flN S1.r [0, 1] := by rw [eG, flG_N y1.fine (by decide)]
  have rE : E.1 = srF G.1 (RgV.lay (RgV.an (RgV.an (RgV.dm is next) 0 K0.anchor K0.used) 1 K1.anchor K1.used)) := by rw [eE, setG_F b1.fine o1]
  have f2 : flC [0, 1] ⟨S1, K0, K1, T0, T1, is, next, (RgV.an (RgV.an (RgV.dm is next) 0 K0.anchor K0.used) 1 K1.anchor K1.used)⟩ = (⟨⟨G.1, S1.ts⟩, K0, K1, T0, T1, is, next, (RgV.an (RgV.an (RgV.dm is next) 0 K0.anchor K0.used) 1 K1.anchor K1.used)⟩, 0) := by
    unfold flC
    rw [← eG, b1.e]
  have f3 : sayC ⟨⟨G.1, S1.ts⟩, K0, K1, T0, T1, is, next, (RgV.an (RgV.an (RgV.dm is next) 0 K0.anchor K0.used) 1 K1.anchor K1.used)⟩ = (⟨⟨E.1, S1.ts⟩, K0, K1, T0, T1, (RgV.an (RgV.an (RgV.dm is next) 0 K0.anchor K0.used) 1 K1.anchor K1.used), (RgV.an (RgV.an (RgV.dm is next) 0 K0.anchor K0.used) 1 K1.anchor K1.used), (RgV.an (RgV.an (RgV.dm is next) 0 K0.anchor K0.used) 1 K1.anchor K1.used)⟩, 0) := by
    unfold sayC
    rw [if_pos (by rw [← eE]; exact b2.e), ← eE]
  have c0 := hm_ok b2.fine (d := 0) (.inl rfl) hs0.un hs0.ok
  obtain ⟨H0, eH0⟩ : ∃ H, H = hmG E.1 0 T0.sheet := ⟨_, rfl⟩
  rw [← eH0] at c0
  have rH0 : H0.1 = wrK E.1 0 (srt T0.sheet) := by rw [eH0, hmG_K b2.fine (.inl rfl) hs0.ok]
  have g0 : hm0 ⟨⟨E.1, S1.ts⟩, K0, K1, T0, T1, (RgV.an (RgV.an (RgV.dm is next) 0 K0.anchor K0.used) 1 K1.anchor K1.used), (RgV.an (RgV.an (RgV.dm is next) 0 K0.anchor K0.used) 1 K1.anchor K1.used), (RgV.an (RgV.an (RgV.dm is next) 0 K0.anchor K0.used) 1 K1.anchor K1.used)⟩ = (⟨⟨H0.1, S1.ts⟩, K0, K1, (TreP.clr T0), T1, (RgV.an (RgV.an (RgV.dm is next) 0 K0.anchor K0.used) 1 K1.anchor K1.used), (RgV.an (RgV.an (RgV.dm is next) 0 K0.anchor K0.used) 1 K1.anchor K1.used), (RgV.an (RgV.an (RgV.dm is next) 0 K0.anchor K0.used) 1 K1.anchor K1.used)⟩, 0) := by
    unfold hm0
    rw [if_pos (by rw [← eH0]; exact c0.e), ← eH0]
  have c1 := hm_ok c0.fine (d := 1) (.inr rfl) hs1.un hs1.ok
  obtain ⟨H1, eH1⟩ : ∃ H, H = hmG H0.1 1 T1.sheet := ⟨_, rfl⟩
  rw [← eH1] at c1
  have rH1 : H1.1 = wrK H0.1 1 (srt T1.sheet) := by rw [eH1, hmG_K c0.fine (.inr rfl) hs1.ok]
  have g1 : hm1 ⟨⟨H0.1, S1.ts⟩, K0, K1, (TreP.clr T0), T1, (RgV.an (RgV.an (RgV.dm is next) 0 K0.anchor K0.used) 1 K1.anchor K1.used), (RgV.an (RgV.an (RgV.dm is next) 0 K0.anchor K0.used) 1 K1.anchor K1.used), (RgV.an (RgV.an (RgV.dm is next) 0 K0.anchor K0.used) 1 K1.anchor K1.used)⟩ = (⟨⟨H1.1, S1.ts⟩, K0, K1, (TreP.clr T0), (TreP.clr T1), (RgV.an (RgV.an (RgV.dm is next) 0 K0.anchor K0.used) 1 K1.anchor K1.used), (RgV.an (RgV.an (RgV.dm is next) 0 K0.anchor K0.used) 1 K1.anchor K1.used), (RgV.an (RgV.an (RgV.dm is next) 0 K0.anchor K0.used) 1 K1.anchor K1.used)⟩, 0) := by
    unfold hm1
    rw [if_pos (by rw [← eH1]; exact c1.e), ← eH1]
  have eq : com01 ⟨s, I0, I1, T0, T1, is, next, yy⟩ = (⟨⟨H1.1, S1.ts⟩, K0, K1, (TreP.clr T0), (TreP.clr T1), (RgV.an (RgV.an (RgV.dm is next) 0 K0.anchor K0.used) 1 K1.anchor K1.used), (RgV.an (RgV.an (RgV.dm is next) 0 K0.anchor K0.used) 1 K1.anchor K1.used), (RgV.an (RgV.an (RgV.dm is next) 0 K0.anchor K0.used) 1 K1.anchor K1.used)⟩, 0) := by unfold com01; rw [f0, bd_pok rfl, f1, bd_pok rfl, f2, bd_pok rfl, f3, bd_pok rfl, g0, bd_pok rfl, g1]
  rw [eq]
  refine ⟨rfl, c1.fine, rfl, o1, ⟨rfl, rfl⟩, ⟨rfl, rfl, rfl⟩, k0, k1, ?_, rfl, rfl, fun j hj => by show nw_ H1.1 0 j = _; rw [c1.off 0 (.inl rfl) (by decide) j, c0.on j hj, b2.nw 0 (.inl rfl) j hj, b1.nw 0 (.inl rfl) j hj, y1.nw 0 (.inl rfl) j hj, y0.nw 0 (.inl rfl) j hj], fun j hj => by show nw_ H1.1 1 j = _; rw [c1.on j hj, c0.off 1 (.inr rfl) (by decide) j, b2.nw 1 (.inr rfl) j hj, b1.nw 1 (.inr rfl) j hj, y1.nw 1 (.inr rfl) j hj, y0.nw 1 (.inr rfl) j hj], ?_, ?_, (by show K0.root = _; rw [if_neg hz0, eK0]; exact appX_root _ _ _), (by show K1.root = _; rw [if_neg hz1, eK1]; exact appX_root _ _ _)⟩
  · have q0 : K0.area = I0.area := by rw [eK0]; exact appX_area _ _ _
    have q1 : K1.area = I1.area := by rw [eK1]; exact appX_area _ _ _
    exact ⟨rfl, by show is.ar0 = (K0.area : Int); rw [q0]; exact hrj.r0, rfl, rfl, by show is.ar1 = (K1.area : Int); rw [q1]; exact hrj.r1, rfl⟩
  · show S1.ts.length ≤ s.ts.length + 2; omega
  · intro C0 C1 hj
    show DK super H1.1 K0 K1 (RgV.an (RgV.an (RgV.dm is next) 0 K0.anchor K0.used) 1 K1.anchor K1.used) (ovl T0.sheet C0) (ovl T1.sheet C1)
    rw [rH1, rH0, rE, rG, r1, r0, eK0, eK1]
    exact dk_01 hj.dk hj0 hj1 i0 i1 hs0.un hs1.un _
end Go.Proofs.YtkjamonkohpcnaaGreat.Cmt
/- A store on any rig: a commit of the first device's sheet, both devices attached. -/
namespace Go.Proofs.YtkjamonkohpcnaaGreat.Stg
open Go Ev Sha Aes Orc Node Rec Chn Jrn Cau Sto Srt
open Rig (Fnc_takeR RigP Rg rgM readR writeR flushR setRegR z64 app_of tick comes write_ flush_ setreg_ mayE RigA)
open Tree (TreP TreA Tre treM shB mpB treC)
set_option linter.unusedVariables false
set_option linter.unusedSimpArgs false
set_option maxRecDepth 100000
noncomputable def comT0 (super : ByteArray) (c : Cx) : Cx × Int := if roomJ c.j0 c.t0.sheet.length = true then com0 c else bd (τ := Cx) (enA2 super c) com0
attribute [local irreducible] dgV D jC wrF rcC stC regC RgV.lay rgM setRegR writeR rcP recB begJ beginG bare BareT setG treC flatV Builtin.append_ Builtin.len_ appJ appX hmG srt roomJ areas2G
set_option maxHeartbeats 16000000 in
theorem commitT0 (a : RigA) (c : Cx) (o : Orc) (sn jn0 jn1 tn0 tn1 : Nat) (x : StP) (A0 A1 : TreA) (hrn : x.rn = a.rn) (hon : x.on = o.on) (hts : o.ts = c.s.ts) (his : x.is = c.is) (hnx : x.next = c.next) (hj0 : x.j0 = some ⟨jn0, 0, none⟩) (ht0 : x.t0 = some ⟨tn0, 0, none⟩) (hj1 : x.j1 = some ⟨jn1, 0, none⟩) (ht1 : x.t1 = some ⟨tn1, 0, none⟩) (hs64 : x.super.size = 64) (hat : x.is.at_ = true)
    (hwt : wtL c.t0.sheet.length c.t1.sheet.length = [0]) (hA0 : JAr c.j0) (hA1 : JAr c.j1) (hn0 : (c.t0.sheet.map (·.1)).Nodup) (h10 : 1 ≤ c.t0.sheet.length) (hJ0 : JOk c.j0 c.t0) (hb : c.s.ts.length ≤ 1099511500000) :
    Fnc Tryz.prog 61 [pt sn] (c2M a o sn jn0 jn1 tn0 tn1 a.rn o.on x A0 A1 c) (CTQ a o sn tn0 tn1 x A0 A1 (comT0 x.super c)) := by
  obtain ⟨s, I0, I1, T0, T1, is, next, y0⟩ := c
  dsimp only at his hnx hts hwt hA0 hA1 hn0 h10 hJ0 hb
  subst his; subst hnx
  have hx0 : x = StP.wjj x jn0 jn1 x.is := by unfold StP.wjj; rw [← hj0, ← hj1]
  have hw := waiting1 sn tn0 tn1 x A0 A1 T0 T1 hat ht0 ht1
  rw [hwt] at hw
  obtain ⟨Q, eQ⟩ : ∃ Q, Q = comT0 x.super ⟨s, I0, I1, T0, T1, x.is, x.next, y0⟩ := ⟨_, rfl⟩
  rw [← eQ]
  show Fnc Tryz.prog 61 [pt sn] (rgM ⟨a, s.r⟩ ++ (orcM o ++ (stB sn x :: (jB jn0 a.rn o.on I0 :: (jB jn1 a.rn o.on I1 :: (treM tn0 ⟨A0, T0⟩ ++ treM tn1 ⟨A1, T1⟩)))))) _
  refine fn_intro Tryz.func61 (by kernel_rfl) ?_
  repeat' ((conv => whnf); first
      | refine scope_lab 0 [_, _, _] rfl ?_
      | (refine call_g hw (.blk takeC (.grp takeG (.one takeG))) (fun e A' hq => ?_); obtain ⟨ln, cc, jk, z1, z2⟩ := wt_out hq; subst z1; subst z2)
      | refine nw_row (cs' := regC rg0) rg0_e (fun xn => ?_)
      | refine draw_any 2 [(0, true), (1, true), (2, true), (3, true), (4, true), (5, true), (6, true), (8, true), (9, true), (10, true), (7, true), (11, false), (12, true), (13, true)] [⟨sn, _⟩] rfl (by kernel_rfl) (kept_of (.cons takeC .nil) ?_)
      | (refine ifs (fun h => ?_) (fun h => ?_) <;> (try (exfalso; first | omega | with_reducible contradiction | with_reducible exact h rfl))))
  all_goals (conv => whnf)
  refine lab_rule [] (fun vs M m => ∃ (s' : Rt) (J0 J1 : JrP) (is' : RgV) (p0 p1 : Nat) (o' : Orc), vs = [] ∧ o'.on = o.on ∧ o'.ts = s'.ts ∧ s'.ts.length ≤ 1099511500000 + 5 * (1 - m) ∧ m ≤ 1 ∧ is'.at_ = true ∧ JAr J0 ∧ JAr J1 ∧ (JOk J0 T0) ∧ (m = 0 → roomJ J0 T0.sheet.length = true) ∧ comT0 x.super ⟨s', J0, J1, T0, T1, is', x.next, y0⟩ = Q ∧
    M = rgM ⟨a, s'.r⟩ ++ (orcM o' ++ (stB sn (StP.wjj x p0 p1 is') :: (jB p0 a.rn o.on J0 :: (jB p1 a.rn o.on J1 :: (treM tn0 ⟨A0, T0⟩ ++ (treM tn1 ⟨A1, T1⟩ ++ (lJ ln [0] jk :: [⟨xn, .row (regC rg0) 34⟩])))))))) rfl rfl ?_ ?_
  · rw [hx0]
    exact fin_g (A := rgM _ ++ (orcM o ++ (stB sn _ :: (jB jn0 a.rn o.on I0 :: (jB jn1 a.rn o.on I1 :: (treM tn0 ⟨A0, T0⟩ ++ (treM tn1 ⟨A1, T1⟩ ++ (lJ ln [0] jk :: [⟨xn, _⟩])))))))) (.grp takeG (.grp takeG (.blk takeC (.blk takeC (.blk takeC (.grp takeG (.grp takeG (.blk takeC (.blk takeC .nil))))))))) ⟨1, s, I0, I1, x.is, jn0, jn1, o, rfl, rfl, hts, by omega, by omega, hat, hA0, hA1, hJ0, (fun h => by cases h), eQ.symm, rfl⟩
  rintro vs junk M' m ⟨s', J0, J1, is', p0, p1, o', rfl, ho', hts', hb', hm, hat', hA0', hA1', hJ0', hr, hcom, rfl⟩
  have hck0 := hJ0'.ck
  have hd0 := hJ0'.d
  have ha0 := hJ0'.area
  have hu0 := hJ0'.used
  have hl0 := chkE_0 hck0
  have hsl0 := srt_len T0.sheet
  have hsh0 : Fnc Tryz.prog 119 [pt tn0] (treM tn0 ⟨A0, T0⟩) (Ret (pt A0.sn) (treM tn0 ⟨A0, T0⟩)) := Tree.tsheet tn0 ⟨A0, T0⟩
  have hsn0 := tlen tn0 A0 T0
  have hroom0 := jroom p0 a.rn o.on J0 T0.sheet.length (by omega) (by omega)
  by_cases hrm : roomJ J0 T0.sheet.length = true
  · have hroomed : comT0 x.super ⟨s', J0, J1, T0, T1, is', x.next, y0⟩ = com0 ⟨s', J0, J1, T0, T1, is', x.next, y0⟩ := by unfold comT0; rw [if_pos hrm]
    have hrm0 := hrm
    rw [hrm0] at hroom0
    have hrt0 : Fnc Tryz.prog 124 [pt tn0] (treM tn0 ⟨A0, T0⟩) (Ret (.agg (dgV T0.root).toArray) (treM tn0 ⟨A0, T0⟩)) := troot tn0 ⟨A0, T0⟩
    have hseq0 := jseq p0 a.rn o.on J0
    have hputs0 := tputs tn0 A0 T0 hn0 h10 (by omega)
    have hwrap0 : IntKind.i64.wrap (J0.seq + 1) = J0.seq + 1 := w64 (by have := hl0.2.1; unfold seqOk at this; omega) (by have := hl0.2.1; unfold seqOk at this; omega)
    have hel0 := appJ_len J0 T0.root (srt T0.sheet) s'
    obtain ⟨E0, eE0⟩ : ∃ E, E = appJ J0 T0.root (srt T0.sheet) s' := ⟨_, rfl⟩
    have hap0 : ∀ (g cap : Nat) (jk : List Value) (o1 : Orc), o1.on = o.on → o1.ts = s'.ts → Fnc Tryz.prog 122 [pt p0, .agg (rcP (J0.seq + 1) T0.root (.slice (some ⟨g, 0, none⟩) T0.sheet.length cap)).toArray] (rgM ⟨a, s'.r⟩ ++ (orcM o1 ++ [jB p0 a.rn o.on J0, ⟨g, .row (flatV (srt T0.sheet) ++ jk) 117⟩]))
        (RetO o1 E0.1.ts (fun o' => rgM ⟨a, E0.1.r⟩ ++ (orcM o' ++ [jB p0 a.rn o.on (appX J0 T0.root (srt T0.sheet) E0.2), ⟨g, .row (flatV (srt T0.sheet) ++ jk) 117⟩])) (.int .i64 E0.2)) := fun g cap jk o1 e1 e2 => by
      have := jappend a s' o1 p0 g cap J0 T0.root (srt T0.sheet) jk 117 e2 (by omega) hck0 (by rw [hsl0]; exact hrm0) hd0 ha0 (by omega)
      rw [hsl0, e1, ← eE0] at this
      exact this
    rw [← eE0] at hel0
    obtain ⟨K0, eK0⟩ : ∃ K, K = appX J0 T0.root (srt T0.sheet) 0 := ⟨_, rfl⟩
    have hK00 : E0.2 = 0 → appX J0 T0.root (srt T0.sheet) E0.2 = K0 := fun h => by rw [h, eK0]
    have hK01 : E0.2 ≠ 0 → appX J0 T0.root (srt T0.sheet) E0.2 = J0 := fun h => by unfold appX; rw [if_neg h]
    have hanc0 := janchor p0 a.rn o.on K0
    have husd0 := jused p0 a.rn o.on K0
    have hfl := fun (ln c : Nat) (jk : List Value) => flushj a E0.1.r sn ln c (StP.wjj x p0 p1 is') [0] jk hrn (by decide)
    obtain ⟨G, eG⟩ : ∃ G, G = lp (flG [0]) [0].length 0 E0.1.r := ⟨_, rfl⟩
    rw [← eG] at hfl
    have hst := setg2 a G.1 sn (StP.wjj x p0 p1 is') (RgV.an (RgV.dm is' x.next) 0 K0.anchor K0.used) hrn
    obtain ⟨S, eS⟩ : ∃ S, S = setG G.1 (RgV.an (RgV.dm is' x.next) 0 K0.anchor K0.used) := ⟨_, rfl⟩
    rw [← eS] at hst
    have hhm0 := homeg a S.1 sn tn0 (StP.wn (StP.wjj x p0 p1 is') (RgV.an (RgV.dm is' x.next) 0 K0.anchor K0.used) (RgV.an (RgV.dm is' x.next) 0 K0.anchor K0.used)) 0 A0 T0 hrn (.inl rfl) ht0 hn0 h10 (by omega)
    obtain ⟨H0, eH0⟩ : ∃ H, H = hmG S.1 0 T0.sheet := ⟨_, rfl⟩
    rw [← eH0] at hhm0
    unfold HmQ at hhm0
    have f1 : ap0 (Cx.go ⟨s', J0, J1, T0, T1, is', x.next, y0⟩) = if E0.2 = 0 then (⟨E0.1, K0, J1, T0, T1, is', x.next, (RgV.an (RgV.dm is' x.next) 0 K0.anchor K0.used)⟩, 0) else (⟨E0.1, J0, J1, T0, T1, is', x.next, (RgV.dm is' x.next)⟩, E0.2) := by rw [eK0, eE0]; rfl
    have f2 : flC [0] ⟨E0.1, K0, J1, T0, T1, is', x.next, (RgV.an (RgV.dm is' x.next) 0 K0.anchor K0.used)⟩ = (⟨⟨G.1, E0.1.ts⟩, K0, J1, T0, T1, is', x.next, (RgV.an (RgV.dm is' x.next) 0 K0.anchor K0.used)⟩, G.2) := by rw [eG]; rfl
    have f3 : sayC ⟨⟨G.1, E0.1.ts⟩, K0, J1, T0, T1, is', x.next, (RgV.an (RgV.dm is' x.next) 0 K0.anchor K0.used)⟩ = if S.2 = 0 then (⟨⟨S.1, E0.1.ts⟩, K0, J1, T0, T1, (RgV.an (RgV.dm is' x.next) 0 K0.anchor K0.used), (RgV.an (RgV.dm is' x.next) 0 K0.anchor K0.used), (RgV.an (RgV.dm is' x.next) 0 K0.anchor K0.used)⟩, 0) else (⟨⟨S.1, E0.1.ts⟩, K0, J1, T0, T1, is', x.next, (RgV.an (RgV.dm is' x.next) 0 K0.anchor K0.used)⟩, S.2) := by rw [eS]; rfl
    have f4 : hm0 ⟨⟨S.1, E0.1.ts⟩, K0, J1, T0, T1, (RgV.an (RgV.dm is' x.next) 0 K0.anchor K0.used), (RgV.an (RgV.dm is' x.next) 0 K0.anchor K0.used), (RgV.an (RgV.dm is' x.next) 0 K0.anchor K0.used)⟩ = if H0.2 = 0 then (⟨⟨H0.1, E0.1.ts⟩, K0, J1, TreP.clr T0, T1, (RgV.an (RgV.dm is' x.next) 0 K0.anchor K0.used), (RgV.an (RgV.dm is' x.next) 0 K0.anchor K0.used), (RgV.an (RgV.dm is' x.next) 0 K0.anchor K0.used)⟩, 0) else (⟨⟨H0.1, E0.1.ts⟩, K0, J1, T0, T1, (RgV.an (RgV.dm is' x.next) 0 K0.anchor K0.used), (RgV.an (RgV.dm is' x.next) 0 K0.anchor K0.used), (RgV.an (RgV.dm is' x.next) 0 K0.anchor K0.used)⟩, H0.2) := by rw [eH0]; rfl
    repeat' ((conv => whnf); first
        | refine draw_any 6 [(0, true), (1, true), (2, true), (3, true), (4, true), (5, true), (7, true), (8, true), (9, true), (10, true), (11, true), (12, true), (6, true), (13, false), (14, false), (15, false), (16, false), (17, true)] [⟨sn, _⟩] rfl (by kernel_rfl) (kept_of (.cons takeC .nil) ?_)
        | refine draw_any 10 [(0, true), (1, true), (2, true), (3, true), (5, true), (6, true), (7, true), (8, true), (4, true), (10, true), (9, true), (11, false), (12, true), (13, false)] [⟨sn, _⟩] rfl (by kernel_rfl) (kept_of (.cons takeC .nil) ?_)
        | refine draw_any 14 [(0, true), (1, true), (2, true), (3, true), (4, true), (5, true), (7, true), (8, true), (9, true), (10, true), (11, true), (12, true), (6, true), (14, true), (13, false), (15, true)] [⟨sn, _⟩] rfl (by kernel_rfl) (kept_of (.cons takeC .nil) ?_)
        | refine draw_any 16 [(0, true), (1, true), (2, true), (4, true), (6, true), (9, true), (3, false), (7, true), (5, false), (8, false), (10, true), (11, false)] [] rfl (by kernel_rfl) (kept_nil ?_)
        | refine kept_of (.cons takeC .nil) ?_
        | refine kept_nil ?_
        | refine loop_n 2 ?_
        | refine nv_eq (a := 0) rfl ?_
        | refine nv_eq (a := 6) rfl ?_
        | refine nv_eq (a := 68) rfl ?_
        | refine ld1_row (n := ln) (v := .int .i64 0) rfl ?_
        | refine fld1_row (n := sn) (v := pt p0) (by rw [stC_6]; rfl) ?_
        | refine ld1_row (n := sn) (v := pt tn0) (by rw [stC_7]; show some (Value.pointer x.t0) = _; rw [ht0]) ?_
        | refine call_gr hsh0 (.one takeG) ?_
        | refine call_gr hsn0 (.one takeG) ?_
        | refine call_gr hroom0 (.blk takeC .nil) ?_
        | refine call_gr hrt0 (.one takeG) ?_
        | refine call_gr hseq0 (.blk takeC .nil) ?_
        | (refine wr (fun z hz => ?_); rw [hwrap0] at hz; subst hz)
        | (refine call_g hputs0 (.one takeG) (fun e A' hq => ?_); obtain ⟨g0, cap0, jkp0, z1, z2⟩ := hq; subst z1; subst z2)
        | (refine bld_cons (vs := [_]) rfl rfl rfl (Nat.le_of_ble_eq_true rfl) rfl ?_; refine bld_cons (vs := dgV T0.root) (cs1 := rcC (J0.seq + 1) T0.root) rfl rfl (dgV_len _) (Nat.le_of_ble_eq_true rfl) (rzs_e _ _) ?_; refine bld_cons (vs := [_]) (cs1 := rcP (J0.seq + 1) T0.root (.slice (some ⟨g0, 0, none⟩) T0.sheet.length cap0)) rfl rfl rfl (by rw [rcC_len]; exact Nat.le_refl 34) (rcC_P _ _ _) ?_; refine bld_nil ?_)
        | refine call_gr hanc0 (.blk takeC .nil) ?_
        | refine call_gr husd0 (.blk takeC .nil) ?_
        | refine st_ra0 ?_
        | refine st_r68 ?_
        | refine call_go (hap0 g0 cap0 jkp0 o' ho' hts') (.grp takeG (.grp takeG (.blk takeC (.blk takeC .nil)))) (fun o0 a0 b0 => ?_)
        | (refine call_g (must_any E0.2) .nil (fun e A' hq => ?_); obtain ⟨z0, ⟨c0, z2⟩ | ⟨c0, z2⟩⟩ := hq <;> subst z2 <;> subst z0 <;> first | rw [hK00 c0] | rw [hK01 c0])
        | (refine call_g hhm0 (.grp takeG (.blk takeC (.one takeG))) (fun e A' hq => ?_); obtain ⟨v0, m0, z2, z3⟩ | ⟨v0, z2, z3⟩ := hq <;> subst z2 <;> subst z3)
        | refine ldN_row (n := sn) _ stC_is (regC_len _) ?_
        | refine ldN_whole (n := xn) (regC_len _) ?_
        | (refine need ?_ ?_; exact regC_len _)
        | (refine need ?_ ?_; exact dgV_len _)
        | refine st_rgl rfl ?_
        | refine fld1_row (n := sn) stC_nd ?_
        | refine fld1_row (n := sn) stC_nm ?_
        | refine st_r70 ?_
        | refine st_r71 ?_
        | refine force_of ?_
        | (refine call_g (hfl _ _ _) (.grp takeG (.blk takeC (.blk takeC .nil))) (fun e A' hq => ?_); obtain ⟨⟨t1, t2⟩ | ⟨t1, t2⟩, t3⟩ := hq <;> subst t2 <;> subst t3)
        | (refine call_g hst (.grp takeG (.blk takeC .nil)) (fun e A' hq => ?_); obtain ⟨u1, u2, u3⟩ | ⟨u1, u2, u3⟩ := hq <;> subst u2 <;> subst u3)
        | refine st_nx ?_
        | refine need (by first | rfl | omega) ?_
        | (refine wr (fun z hz => ?_); (try rw [Int.tdiv_eq_ediv_of_nonneg (by omega)] at hz); rw [w64 (by omega) (by omega)] at hz; subst hz)
        | (refine ifs (fun h => ?_) (fun h => ?_) <;> (try (exfalso; first | omega | with_reducible contradiction | with_reducible exact h rfl))))
    all_goals (conv => whnf)
    · have hQ : com0 ⟨s', J0, J1, T0, T1, is', x.next, y0⟩ = (⟨⟨H0.1, E0.1.ts⟩, K0, J1, TreP.clr T0, T1, (RgV.an (RgV.dm is' x.next) 0 K0.anchor K0.used), (RgV.an (RgV.dm is' x.next) 0 K0.anchor K0.used), (RgV.an (RgV.dm is' x.next) 0 K0.anchor K0.used)⟩, 0) := by unfold com0; rw [f1, if_pos c0, bd_pok rfl, f2, bd_pok t1, f3, if_pos u1, bd_pok rfl, f4, if_pos v0]
      rw [← hcom, hroomed, hQ]
      exact fin_g (A := rgM _ ++ (orcM o0 ++ (stB sn _ :: (jB p0 a.rn o.on K0 :: (jB p1 a.rn o.on J1 :: (treM tn0 ⟨TreA.wm A0 m0, TreP.clr T0⟩ ++ treM tn1 ⟨A1, T1⟩)))))) (.grp takeG (.grp takeG (.blk takeC (.blk takeC (.blk takeC (.grp takeG (.one takeG))))))) ⟨o0, TreA.wm A0 m0, A1, p0, p1, a0.trans ho', b0, rfl, rfl, rfl, rfl, .inl ⟨rfl, rfl⟩, rfl⟩
    · have hQ : com0 ⟨s', J0, J1, T0, T1, is', x.next, y0⟩ = (⟨⟨H0.1, E0.1.ts⟩, K0, J1, T0, T1, (RgV.an (RgV.dm is' x.next) 0 K0.anchor K0.used), (RgV.an (RgV.dm is' x.next) 0 K0.anchor K0.used), (RgV.an (RgV.dm is' x.next) 0 K0.anchor K0.used)⟩, H0.2) := by unfold com0; rw [f1, if_pos c0, bd_pok rfl, f2, bd_pok t1, f3, if_pos u1, bd_pok rfl, f4, if_neg v0]
      rw [← hcom, hroomed, hQ]
      exact fin_g (A := rgM _ ++ (orcM o0 ++ (stB sn _ :: (jB p0 a.rn o.on K0 :: (jB p1 a.rn o.on J1 :: (treM tn0 ⟨A0, T0⟩ ++ treM tn1 ⟨A1, T1⟩)))))) (.grp takeG (.grp takeG (.blk takeC (.blk takeC (.blk takeC (.grp takeG (.one takeG))))))) ⟨o0, A0, A1, p0, p1, a0.trans ho', b0, rfl, rfl, rfl, rfl, .inr ⟨v0, rfl⟩, rfl⟩
    · have hQ : com0 ⟨s', J0, J1, T0, T1, is', x.next, y0⟩ = (⟨⟨S.1, E0.1.ts⟩, K0, J1, T0, T1, is', x.next, (RgV.an (RgV.dm is' x.next) 0 K0.anchor K0.used)⟩, S.2) := by unfold com0; rw [f1, if_pos c0, bd_pok rfl, f2, bd_pok t1, f3, if_neg u1, bd_pno u1]
      rw [← hcom, hroomed, hQ]
      exact fin_g (A := rgM _ ++ (orcM o0 ++ (stB sn _ :: (jB p0 a.rn o.on K0 :: (jB p1 a.rn o.on J1 :: (treM tn0 ⟨A0, T0⟩ ++ treM tn1 ⟨A1, T1⟩)))))) (.grp takeG (.grp takeG (.blk takeC (.blk takeC (.blk takeC (.grp takeG (.one takeG))))))) ⟨o0, A0, A1, p0, p1, a0.trans ho', b0, rfl, rfl, rfl, rfl, .inr ⟨u1, rfl⟩, rfl⟩
    · have hQ : com0 ⟨s', J0, J1, T0, T1, is', x.next, y0⟩ = (⟨⟨G.1, E0.1.ts⟩, K0, J1, T0, T1, is', x.next, (RgV.an (RgV.dm is' x.next) 0 K0.anchor K0.used)⟩, G.2) := by unfold com0; rw [f1, if_pos c0, bd_pok rfl, f2, bd_pno t1]
      rw [← hcom, hroomed, hQ]
      exact fin_g (A := rgM _ ++ (orcM o0 ++ (stB sn _ :: (jB p0 a.rn o.on K0 :: (jB p1 a.rn o.on J1 :: (treM tn0 ⟨A0, T0⟩ ++ treM tn1 ⟨A1, T1⟩)))))) (.grp takeG (.grp takeG (.blk takeC (.blk takeC (.blk takeC (.grp takeG (.one takeG))))))) ⟨o0, A0, A1, p0, p1, a0.trans ho', b0, rfl, rfl, rfl, rfl, .inr ⟨t1, rfl⟩, rfl⟩
    · have hQ : com0 ⟨s', J0, J1, T0, T1, is', x.next, y0⟩ = (⟨E0.1, J0, J1, T0, T1, is', x.next, (RgV.dm is' x.next)⟩, E0.2) := by unfold com0; rw [f1, if_neg c0, bd_pno c0]
      rw [← hcom, hroomed, hQ]
      exact fin_g (A := rgM _ ++ (orcM o0 ++ (stB sn _ :: (jB p0 a.rn o.on J0 :: (jB p1 a.rn o.on J1 :: (treM tn0 ⟨A0, T0⟩ ++ treM tn1 ⟨A1, T1⟩)))))) (.grp takeG (.grp takeG (.blk takeC (.blk takeC (.blk takeC (.grp takeG (.one takeG))))))) ⟨o0, A0, A1, p0, p1, a0.trans ho', b0, rfl, rfl, rfl, rfl, .inr ⟨c0, rfl⟩, rfl⟩
  · have hm1 : m = 1 := by
      rcases Nat.eq_zero_or_pos m with h0 | h0
      · exact absurd (hr h0) hrm
      · omega
    subst hm1
    have hdv := devices_ sn (StP.wjj x p0 p1 is') hat'
    have hok := areas2_ok (super := x.super) (q := ⟨s', J0, J1, is'⟩)
    have hcomF : comT0 x.super ⟨s', J0, J1, T0, T1, is', x.next, y0⟩ = bd (τ := Cx) (enA2 x.super ⟨s', J0, J1, T0, T1, is', x.next, y0⟩) com0 := by unfold comT0; rw [if_neg hrm]
    obtain ⟨q, eq⟩ : ∃ q, q = areas2G x.super ⟨s', J0, J1, is'⟩ := ⟨_, rfl⟩
    have hen : enA2 x.super ⟨s', J0, J1, T0, T1, is', x.next, y0⟩ = if q.2 = 0 then (⟨q.1.s, q.1.j0, q.1.j1, T0, T1, q.1.y, x.next, y0⟩, 0) else (⟨q.1.s, q.1.j0, q.1.j1, T0, T1, is', x.next, y0⟩, q.2) := by rw [eq]; rfl
    rw [← eq] at hok
    have hA : ∀ l2, Fnc Tryz.prog 121 [pt sn, .agg (regC is').toArray, .slice (some ⟨l2, 0, none⟩) 2 2] (⟨l2, .cells [.int .i64 0, .int .i64 1] 3⟩ :: (rgM ⟨a, s'.r⟩ ++ (orcM o' ++ [stB sn (StP.wjj x p0 p1 is'), jB p0 a.rn o.on J0, jB p1 a.rn o.on J1])))
        (fun e M => ∃ (o2 : Orc) (r0 r1 : Nat), o2.on = o.on ∧ o2.ts = q.1.s.ts ∧ ((q.2 = 0 ∧ e = .returned (.tuple #[]) ∧ M = rgM ⟨a, q.1.s.r⟩ ++ (orcM o2 ++ [stB sn (StP.wjj x r0 r1 q.1.y), jB r0 a.rn o.on q.1.j0, jB r1 a.rn o.on q.1.j1])) ∨ (q.2 ≠ 0 ∧ e = .panicked (pe q.2) ∧ M = rgM ⟨a, q.1.s.r⟩ ++ (orcM o2 ++ [stB sn (StP.wjj x r0 r1 is'), jB r0 a.rn o.on q.1.j0, jB r1 a.rn o.on q.1.j1])))) := fun l2 => by
      have h := areas2 a ⟨s', J0, J1, is'⟩ o' sn l2 2 p0 p1 (StP.wjj x p0 p1 is') hrn (hon.trans ho'.symm) hts' rfl rfl hs64 hA0'.area hA0'.sq hA1'.area hA1'.sq (by show s'.ts.length ≤ _; omega)
      rw [show (StP.wjj x p0 p1 is').super = x.super from rfl, ← eq, ho'] at h
      refine Fnc_row (Fnc_perm (Fnc_mono h ?_) ((TakesG.perm (M := rgM ⟨a, s'.r⟩ ++ (orcM o' ++ [stB sn (StP.wjj x p0 p1 is'), jB p0 a.rn o.on J0, jB p1 a.rn o.on J1, lB l2 [0, 1]])) (A := lB l2 [0, 1] :: (rgM ⟨a, s'.r⟩ ++ (orcM o' ++ [stB sn (StP.wjj x p0 p1 is'), jB p0 a.rn o.on J0, jB p1 a.rn o.on J1]))) (R := []) (.blk takeC (.grp takeG (.grp takeG (.blk takeC (.blk takeC (.blk takeC .nil))))))).trans (by rw [List.append_nil]; exact List.Perm.refl _)))
      rintro e M ⟨o2, r0, r1, g1, g2, ⟨g3, g4⟩ | ⟨g3, g4⟩, g5⟩
      · rw [if_pos g3] at g5; exact ⟨o2, r0, r1, g1, g2, .inl ⟨g3, g4, g5⟩⟩
      · rw [if_neg g3] at g5; exact ⟨o2, r0, r1, g1, g2, .inr ⟨g3, g4, g5⟩⟩
    have hfin : q.2 = 0 → JAr q.1.j0 ∧ JAr q.1.j1 ∧ (JOk q.1.j0 T0) ∧ (roomJ q.1.j0 T0.sheet.length = true) ∧ q.1.y.at_ = true ∧ q.1.s.ts.length ≤ 1099511500000 + 5 * (1 - 0) ∧ comT0 x.super ⟨q.1.s, q.1.j0, q.1.j1, T0, T1, q.1.y, x.next, y0⟩ = Q := fun g3 => by
      obtain ⟨k0, k1, k2, k3⟩ := hok g3
      have hf0 := begJ_f x.super 0 (1 - J0.area) J0.seq J0.root
      have hf1 := begJ_f x.super 1 (1 - J1.area) J1.seq J1.root
      have hrq : roomJ q.1.j0 T0.sheet.length = true := by rw [k0]; exact room_beg _ _ _ _ _ h10 (by omega)
      refine ⟨⟨by rw [k0, hf0.2.2.1]; omega, by rw [k0, hf0.1]; exact hA0'.sq⟩, ⟨by rw [k1, hf1.2.2.1]; omega, by rw [k1, hf1.1]; exact hA1'.sq⟩, ⟨by rw [k0, hf0.1]; exact hck0, by rw [k0, hf0.2.1]; omega, by rw [k0, hf0.2.2.1]; omega, by rw [k0, hf0.2.2.2.1]; omega, by rw [k0, hf0.1]; exact hJ0'.sq⟩, hrq, k2.trans hat', by dsimp only at k3; omega, ?_⟩
      rw [← hcom, hcomF, hen, if_pos g3, bd_pok rfl]; unfold comT0; rw [if_pos hrq]
    rw [show roomJ J0 T0.sheet.length = false by simpa using hrm] at hroom0
    repeat' ((conv => whnf); first
        | refine draw_any 6 [(0, true), (1, true), (2, true), (3, true), (4, true), (5, true), (7, true), (8, true), (9, true), (10, true), (11, true), (12, true), (6, true), (13, false), (14, false), (15, false), (16, false), (17, true)] [⟨sn, _⟩] rfl (by kernel_rfl) (kept_of (.cons takeC .nil) ?_)
        | refine draw_pan 7 (.take 0 (.take 1 (.take 2 (.take 3 (.take 5 (.two 4 6 (.only 6 (.only 7 .nil)) (.only 4 (.only 7 .nil)))))))) [] rfl (by kernel_rfl) (fun _ _ _ _ h => h) (kept_nil ?_)
        | refine kept_nil ?_
        | refine And.intro ?_ ?_
        | refine kept_of (.cons takeC .nil) ?_
        | refine loop_n 2 ?_
        | refine nv_eq (a := 0) rfl ?_
        | refine nv_eq (a := 6) rfl ?_
        | refine ld1_row (n := ln) (v := .int .i64 0) rfl ?_
        | refine fld1_row (n := sn) (v := pt p0) (by rw [stC_6]; rfl) ?_
        | refine ld1_row (n := sn) (v := pt tn0) (by rw [stC_7]; show some (Value.pointer x.t0) = _; rw [ht0]) ?_
        | refine call_gr hsh0 (.one takeG) ?_
        | refine call_gr hsn0 (.one takeG) ?_
        | refine call_gr hroom0 (.blk takeC .nil) ?_
        | refine ldN_row (n := sn) _ stC_is (regC_len _) ?_
        | (refine call_g hdv (.blk takeC .nil) (fun e A' hq => ?_); obtain ⟨l2, z1, z2⟩ := hq; subst z1; subst z2)
        | (refine call_g (hA l2) (.blk takeC (.grp takeG (.grp takeG (.blk takeC (.blk takeC (.blk takeC .nil)))))) (fun e A' hq => ?_); obtain ⟨o2, r0, r1, g1, g2, ⟨g3, g4, g5⟩ | ⟨g3, g4, g5⟩⟩ := hq <;> subst g4 <;> subst g5)
        | refine need (by first | rfl | omega) ?_
        | (refine ifs (fun h => ?_) (fun h => ?_) <;> (try (exfalso; first | omega | with_reducible contradiction | with_reducible exact h rfl))))
    all_goals (conv => whnf)
    · rfl
    · obtain ⟨k0, k1, k2, k3, k4, k5, k6⟩ := hfin g3
      exact fin_g (A := rgM _ ++ (orcM o2 ++ (stB sn _ :: (jB r0 a.rn o.on q.1.j0 :: (jB r1 a.rn o.on q.1.j1 :: (treM tn0 ⟨A0, T0⟩ ++ (treM tn1 ⟨A1, T1⟩ ++ (lJ ln [0] jk :: [⟨xn, _⟩])))))))) (.grp takeG (.grp takeG (.blk takeC (.blk takeC (.blk takeC (.grp takeG (.grp takeG (.blk takeC (.blk takeC .nil)))))))))
        ⟨0, by omega, q.1.s, q.1.j0, q.1.j1, q.1.y, r0, r1, o2, rfl, g1, g2, k5, by omega, k4, k0, k1, k2, fun _ => k3, k6, rfl⟩
    · rw [← hcom, hcomF, hen, if_neg g3, bd_pno g3]
      exact fin_g (A := rgM _ ++ (orcM o2 ++ (stB sn _ :: (jB r0 a.rn o.on q.1.j0 :: (jB r1 a.rn o.on q.1.j1 :: (treM tn0 ⟨A0, T0⟩ ++ treM tn1 ⟨A1, T1⟩)))))) (.grp takeG (.grp takeG (.blk takeC (.blk takeC (.blk takeC (.grp takeG (.one takeG))))))) ⟨o2, A0, A1, r0, r1, g1, g2, rfl, rfl, rfl, rfl, .inr ⟨g3, rfl⟩, rfl⟩
    · rfl
    · obtain ⟨k0, k1, k2, k3, k4, k5, k6⟩ := hfin g3
      exact fin_g (A := rgM _ ++ (orcM o2 ++ (stB sn _ :: (jB r0 a.rn o.on q.1.j0 :: (jB r1 a.rn o.on q.1.j1 :: (treM tn0 ⟨A0, T0⟩ ++ (treM tn1 ⟨A1, T1⟩ ++ (lJ ln [0] jk :: [⟨xn, _⟩])))))))) (.grp takeG (.grp takeG (.blk takeC (.blk takeC (.blk takeC (.grp takeG (.grp takeG (.blk takeC (.blk takeC .nil)))))))))
        ⟨0, by omega, q.1.s, q.1.j0, q.1.j1, q.1.y, r0, r1, o2, rfl, g1, g2, k5, by omega, k4, k0, k1, k2, fun _ => k3, k6, rfl⟩
    · rw [← hcom, hcomF, hen, if_neg g3, bd_pno g3]
      exact fin_g (A := rgM _ ++ (orcM o2 ++ (stB sn _ :: (jB r0 a.rn o.on q.1.j0 :: (jB r1 a.rn o.on q.1.j1 :: (treM tn0 ⟨A0, T0⟩ ++ treM tn1 ⟨A1, T1⟩)))))) (.grp takeG (.grp takeG (.blk takeC (.blk takeC (.blk takeC (.grp takeG (.one takeG))))))) ⟨o2, A0, A1, r0, r1, g1, g2, rfl, rfl, rfl, rfl, .inr ⟨g3, rfl⟩, rfl⟩
end Go.Proofs.YtkjamonkohpcnaaGreat.Stg
