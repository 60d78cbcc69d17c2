/- Texts of this proof, merged. -/
import Derived.Test.YtkjamonkohpcnaaGreatAk7
import Derived.Test.YtkjamonkohpcnaaGreatAk8
import Derived.Test.YtkjamonkohpcnaaGreatAk18
import Derived.Test.YtkjamonkohpcnaaGreatAk14
import Derived.Test.YtkjamonkohpcnaaGreatAk13
set_option linter.unusedVariables false
set_option linter.unusedSimpArgs false
set_option linter.unusedSectionVars false
set_option maxRecDepth 100000
set_option maxHeartbeats 16000000
namespace Go.Proofs.YtkjamonkohpcnaaGreat
namespace Aes
open Go Ev Sha
theorem by8_0 : by8 0 := by unfold by8; omega
theorem rounds_0 (k s : Nat → Int) : rounds k s 0 = add16 k 0 s := rfl
theorem rounds_succ (k s : Nat → Int) (n : Nat) : rounds k s (n + 1) = add16 k (n + 1) (mixs (imgs k (rounds k s n) 16) 16) := rfl
theorem by8_adds {k : Nat → Int} {n : Nat} {s : Nat → Int} (hs : ∀ j, by8 (s j)) : ∀ i j, by8 (adds k n s i j)
 | 0 => by rw [adds_0]; exact hs
 | i + 1 => by rw [adds_succ]; exact by8_updF (by8_adds hs i) (by8_bx _ _)
theorem by8_imgs {k s : Nat → Int} (hk : ∀ j, by8 (k j)) : ∀ i j, by8 (imgs k s i j)
 | 0 => by rw [imgs_0]; intro j; exact by8_0
 | i + 1 => by rw [imgs_succ]; exact by8_updF (by8_imgs hk i) (hk _)
theorem by8_mixs {s : Nat → Int} : ∀ i j, by8 (mixs s i j)
 | 0 => by rw [mixs_0]; intro j; exact by8_0
 | i + 1 => by rw [mixs_succ]; exact by8_updF (by8_mixs i) (by8_bx _ _)
theorem by8_bytesT (s : ByteArray) (j : Nat) : by8 (bytesT s j) := by
 unfold bytesT; split
 · exact by8_byte _ _
 · unfold by8; omega
theorem by8_rounds {k s : Nat → Int} (hs : ∀ j, by8 (s j)) : ∀ n j, by8 (rounds k s n j)
 | 0 => by rw [rounds_0]; exact by8_adds hs 16
 | n + 1 => by rw [rounds_succ]; exact by8_adds (by8_mixs 16) 16
theorem by8_cipher {k : Nat → Int} (hk : ∀ j, by8 (k j)) (s : ByteArray) (j : Nat) : by8 (cipher k s j) := by8_adds (by8_imgs hk 16) 16 j
theorem cipher_eq (k : Nat → Int) (s : ByteArray) : cipher k s = add16 k 14 (imgs k (rounds k (bytesT s) 13) 16) := rfl
theorem row16_u8 {t : Nat → Int} (ht : ∀ j, by8 (t j)) : row16 t = u8s ((List.range 16).map fun j => UInt8.ofNat (t j).toNat) ++ [] := by
 rw [List.append_nil]
 unfold row16 u8s
 rw [List.map_map]
 refine List.map_congr_left fun j _ => ?_
 have := ht j
 unfold by8 at this
 show Value.int .u8 (t j) = .int .u8 (((UInt8.ofNat (t j).toNat).toNat : Nat) : Int)
 rw [UInt8.toNat_ofNat']
 congr 1
 omega
attribute [local irreducible] add16 rounds cipher imgs mixs adds row16 rowK
theorem encrypt_ (kn : Nat) (k : Nat → Int) (s : ByteArray) (hs : s.size = 16) (hk : ∀ j, by8 (k j)) : Fnc Tryz.prog 227 [pt kn, .string s] [kB kn k] (Ret (.tuple #[.string (enc k s), .int .i64 0]) [kB kn k]) := by
 have hr := by8_rounds (k := k) (by8_bytesT s)
 refine fn_intro Tryz.func227 (by kernel_rfl) ?_
 repeat' ((conv => whnf); first
  | refine call_ret (begin_ kn k s hs) (.cons takeC .nil) ?_ | refine call_ret (add_16 kn k _ 0 (by omega)) (.cons takeC .nil) ?_ | refine force_of ?_ | refine need (row16_len _) ?_ | refine nw_row row16_z (fun n => ?_) | refine ldN_whole (row16_len _) ?_ | refine st_16w ?_ | (refine ifs (fun h => ?_) (fun h => ?_) <;> try (exfalso; first | omega | with_reducible first | contradiction | exact h rfl)))
 refine loop_rule [8] (fun vs M m => ∃ i : Nat, vs = [.int .i64 ((i + 1 : Nat) : Int)] ∧ i ≤ 13 ∧ m = 13 - i ∧ M = [kB kn k, sB n (rounds k (bytesT s) i)]) rfl ?_ ?_
 · exact fin_all ⟨_, 0, rfl, by omega, rfl, by rw [rounds_0]⟩
 rintro vs junk M' m ⟨i, rfl, hi, rfl, rfl⟩
 have hsum : s = s := rfl
 repeat' ((conv => whnf); first
  | refine call_ret (images_ kn k _ (hr i)) (.cons takeC .nil) ?_ | refine call_val (mix_ _) ?_ | refine call_ret (add_16 kn k _ 14 (by omega)) (.cons takeC .nil) ?_ | refine call_ret (add_16 kn k _ (i + 1) (by omega)) (.cons takeC .nil) ?_ | refine force_of ?_ | refine need (row16_len _) ?_ | refine ldN_whole (n := n) (row16_len _) ?_ | refine st_16w (n := n) ?_ | refine nv_eq (a := 0) rfl ?_ | refine nv_eq (a := 16) rfl ?_ | refine need (by first | rfl | omega) ?_ | (refine wr (fun z hz => ?_); (try rw [Int.tdiv_eq_ediv_of_nonneg (by omega)] at hz); rw [w64 (by omega) (by omega)] at hz; subst hz) | (refine ifs (fun h => ?_) (fun h => ?_) <;> try (exfalso; first | omega | with_reducible first | contradiction | exact h rfl)))
 all_goals (conv => whnf)
 · exact ⟨rfl, fin_pick (A' := [⟨kn, _⟩, ⟨n, _⟩]) (.cons takeC (.cons takeC .nil)) ⟨13 - (i + 1), by omega, i + 1, rfl, by omega, rfl, by rw [rounds_succ]⟩⟩
 · obtain rfl : i = 13 := by omega
   repeat' ((conv => whnf); first
    | refine b2s_row (n := n) (t := 319) (l := (List.range 16).map fun j => UInt8.ofNat (cipher k s j).toNat) (junk := []) (by rw [cipher_eq]; exact row16_u8 (by intro j; rw [← cipher_eq]; exact by8_cipher hk s j)) rfl rfl rfl (by simp) ?_)
   all_goals (conv => whnf)
   exact fin_pick (A' := [⟨kn, _⟩]) (.cons takeC .nil) ⟨rfl, rfl⟩
end Aes
namespace Ctr
open Go Ev Sha Aes
theorem enc_size (k : Nat → Int) (s : ByteArray) : (enc k s).size = 16 := by unfold enc; rw [Ev.str_size]; simp
def numOk (n : Int) : Prop := 0 ≤ n ∧ n ≤ 1099511627776
theorem right_ok (n : Int) (h : numOk n) : Fnc Tryz.prog 113 [.int .i64 n] [] (Ret (.bool true) []) := by
 unfold numOk at h
 refine fn_intro Tryz.func113 (by kernel_rfl) ?_
 repeat' ((conv => whnf); first
  | (refine ifs (fun h => ?_) (fun h => ?_) <;> try (exfalso; first | omega | with_reducible first | contradiction | exact h rfl)))
 all_goals (conv => whnf)
 all_goals exact fin_nil ⟨rfl, rfl⟩
theorem right_no (n : Int) (h : ¬ numOk n) : Fnc Tryz.prog 113 [.int .i64 n] [] (Ret (.bool false) []) := by
 unfold numOk at h
 refine fn_intro Tryz.func113 (by kernel_rfl) ?_
 repeat' ((conv => whnf); first
  | (refine ifs (fun h => ?_) (fun h => ?_) <;> try (exfalso; first | omega | with_reducible first | contradiction | exact h rfl)))
 all_goals (conv => whnf)
 all_goals exact fin_nil ⟨rfl, rfl⟩
theorem putE8 {n : Int} (h : numOk n) : Be.putE n 8 = 0 := Be.putE_ok (by omega) (by unfold numOk at h; omega)
theorem putS8 {n : Int} (h : numOk n) : (Be.putS n 8).size = 8 := by rw [Be.putS_ok (putE8 h), Ev.str_size, Be.bb_length]; rfl
def pce (k : Nat → Int) (at_ : ByteArray) (j : Nat) : ByteArray := enc k (at_ ++ str [0, 0, 0, 0, 0, 0, 0, UInt8.ofNat j])
def strm (k : Nat → Int) (n : Int) : List UInt8 := (pce k (Be.putS n 8) 0).data.toList ++ (pce k (Be.putS n 8) 1).data.toList ++ (pce k (Be.putS n 8) 2).data.toList
theorem pce_size (k : Nat → Int) (a : ByteArray) (j : Nat) : (pce k a j).size = 16 := enc_size _ _
theorem strm_len (k : Nat → Int) (n : Int) : (strm k n).length = 48 := by
 unfold strm
 simp only [List.length_append]
 have h : ∀ j, (pce k (Be.putS n 8) j).data.toList.length = 16 := fun j => pce_size _ _ _
 rw [h, h, h]
attribute [local irreducible] convert Builtin.copy_ Builtin.append_ pce enc Be.putS Be.putE
abbrev cF (c kn : Nat) : Blk := ⟨c, .cells [.func (.func 227) #[pt kn] #[]] 194⟩
abbrev cS (c : Nat) (s : ByteArray) : Blk := ⟨c, .cells [.string s] 9⟩
theorem piece (kn c8 c10 : Nat) (k : Nat → Int) (at_ : ByteArray) (j : Nat) (hk : ∀ i, by8 (k i)) (hs : at_.size = 8) (hj : j < 256) :
 Fnc Tryz.prog 228 [.int .i64 j, pt c10, pt c8] [cF c10 kn, cS c8 at_, kB kn k] (Ret (.string (pce k at_ j)) [cF c10 kn, cS c8 at_, kB kn k]) := by
 have he := encrypt_ kn k (at_ ++ str [0, 0, 0, 0, 0, 0, 0, UInt8.ofNat j]) (by rw [ByteArray.size_append, Ev.str_size, hs]; rfl) hk
 rw [show enc k (at_ ++ str [0, 0, 0, 0, 0, 0, 0, UInt8.ofNat j]) = pce k at_ j by unfold pce; rfl] at he
 have hw : IntKind.u8.wrap (j : Int) = ((UInt8.ofNat j).toNat : Int) := by rw [IntKind.wrap_u8, UInt8.toNat_ofNat']; omega
 refine fn_intro Tryz.func228 (by kernel_rfl) ?_
 repeat' ((conv => whnf); first
  | (refine wr8 (fun z hz => ?_); rw [hw] at hz; subst hz) | refine b2s_lit (l := [0, 0, 0, 0, 0, 0, 0, UInt8.ofNat j]) (junk := []) rfl rfl rfl rfl rfl ?_ | refine need (by rw [show IntKind.i64.max = 9223372036854775807 from rfl, Ev.str_size, hs]; show ((8 + 8 : Nat) : Int) ≤ _; omega) ?_ | refine sv_id ?_ | refine call_gr he (.blk takeC .nil) ?_ | refine ld1_lit ?_ | refine nw (fun n => ?_) | refine bld ?_)
 all_goals (conv => whnf)
 all_goals exact fin_g (A := [⟨c10, _⟩, ⟨c8, _⟩, ⟨kn, _⟩]) (.blk takeC (.blk takeC (.blk takeC .nil))) ⟨rfl, rfl⟩
instance (priority := 3000) ZipO_nil {M : List Blk} {e : TypeId} : ZipO M .nil e [] (fun l => l ++ M) := ⟨⟨[], M, rfl, fun _ => rfl⟩⟩
def s1 (k : Nat → Int) (n : Int) : List UInt8 := (pce k (Be.putS n 8) 0).data.toList
def s2 (k : Nat → Int) (n : Int) : List UInt8 := s1 k n ++ (pce k (Be.putS n 8) 1).data.toList
theorem e1 (k : Nat → Int) (n : Int) : [] ++ u8s (pce k (Be.putS n 8) 0).data.toList = u8s (s1 k n) := rfl
theorem e2 (k : Nat → Int) (n : Int) : u8s (s1 k n) ++ u8s (pce k (Be.putS n 8) 1).data.toList = u8s (s2 k n) := by unfold s2; rw [u8s_append]
theorem e3 (k : Nat → Int) (n : Int) : u8s (s2 k n) ++ u8s (pce k (Be.putS n 8) 2).data.toList = u8s (strm k n) := by unfold strm s2 s1; rw [u8s_append (_ ++ _)]
theorem z1 (k : Nat → Int) (n : Int) : 0 + (pce k (Be.putS n 8) 0).size = 16 := by rw [pce_size]
theorem z2 (k : Nat → Int) (n : Int) : 16 + (pce k (Be.putS n 8) 1).size = 32 := by rw [pce_size]
theorem z3 (k : Nat → Int) (n : Int) : 32 + (pce k (Be.putS n 8) 2).size = 48 := by rw [pce_size]
theorem le1 (k : Nat → Int) (n : Int) : 0 + (pce k (Be.putS n 8) 0).size ≤ 140737488355328 := by rw [z1]; omega
theorem le2 (k : Nat → Int) (n : Int) : 16 + (pce k (Be.putS n 8) 1).size ≤ 140737488355328 := by rw [z2]; omega
theorem le3 (k : Nat → Int) (n : Int) : 32 + (pce k (Be.putS n 8) 2).size ≤ 140737488355328 := by rw [z3]; omega
attribute [local irreducible] s1 s2 strm
theorem stream (kn : Nat) (k : Nat → Int) (u : Int) (hk : ∀ i, by8 (k i)) (hn : numOk u) :
 Fnc Tryz.prog 189 [pt kn, .int .i64 u, .int .i64 48] [kB kn k] (Ret (.tuple #[.string (str (strm k u)), .int .i64 0]) [kB kn k]) := by
 have hr := right_ok u hn
 have hp := Be.put u 8
 rw [putE8 hn] at hp
 have hs := putS8 hn
 have hpc := fun c8 c10 j hj => piece kn c8 c10 k (Be.putS u 8) j hk hs hj
 refine fn_intro Tryz.func189 (by kernel_rfl) ?_
 repeat' ((conv => whnf); first
  | refine call_val hr ?_ | refine call_val hp ?_ | refine loop_n 4 ?_ | refine call_gr (hpc _ _ 0 (by omega)) (.blk takeC (.blk takeC (.blk takeC .nil))) ?_ | refine call_gr (hpc _ _ 1 (by omega)) (.blk takeC (.blk takeC (.blk takeC .nil))) ?_ | refine call_gr (hpc _ _ 2 (by omega)) (.blk takeC (.blk takeC (.blk takeC .nil))) ?_ | (refine app_str (S := .nil) (n := 0) (xs := []) rfl rfl rfl rfl rfl rfl ⟨rfl, rfl⟩ (le1 k _) (fun S1 h1 => ?_); rw [z1, e1] at h1 ⊢) | (refine app_str (S := S1) (n := 16) (xs := u8s (s1 k _)) rfl rfl rfl rfl rfl rfl h1 (le2 k _) (fun S2 h2 => ?_); rw [z2, e2] at h2 ⊢) | (refine app_str (S := S2) (n := 32) (xs := u8s (s2 k _)) rfl rfl rfl rfl rfl rfl h2 (le3 k _) (fun S3 h3 => ?_); rw [z3, e3] at h3 ⊢) | refine nw (fun n => ?_) | refine st_lit rfl ?_ | refine need (by first | rfl | omega) ?_ | (refine wr (fun z hz => ?_); (try rw [Int.tdiv_eq_ediv_of_nonneg (by omega)] at hz); rw [w64 (by omega) (by omega)] at hz; subst hz) | (refine ifs (fun h => ?_) (fun h => ?_) <;> try (exfalso; first | omega | with_reducible first | contradiction | exact h rfl)))
 all_goals (conv => whnf)
 cases S3 with
 | nil => have h48 : (48 : Nat) = 0 := h3.2; omega
 | at_ g cap junk =>
   obtain ⟨_, hc, _⟩ := h3
   repeat' ((conv => whnf); first
    | refine need ⟨by omega, by omega, Int.ofNat_le.2 hc⟩ ?_ | refine nv_eq (a := 0) (by show (if cap = 0 then 0 else 0) = 0; split <;> rfl) ?_ | refine nv_eq (a := 48) rfl ?_ | refine nv_eq (a := cap) rfl ?_ | refine b2s_row (n := g) (t := 5) (cs := u8s (strm k u) ++ junk) (hk := ⟨by simp [Own.blk]⟩) (l := strm k u) (junk := junk) rfl rfl rfl rfl (strm_len _ _).symm ?_)
   all_goals (conv => whnf)
   all_goals exact fin_pick (A' := [kB kn k]) (.cons takeC .nil) ⟨rfl, rfl⟩
def cry (k : Nat → Int) (u : Int) (s : ByteArray) : ByteArray := str (Be.xo s (str (strm k u)))
theorem xorS_eq {a b : ByteArray} (h : a.size = b.size) : Be.xorS a b = str (Be.xo a b) ∧ Be.xorE a b = 0 := by
 unfold Be.xorS Be.xorE
 constructor
 · rw [if_pos h]
 · rw [if_pos h]
theorem cry_size (k : Nat → Int) (u : Int) (s : ByteArray) (hs : s.size = 48) : (cry k u s).size = 48 := by
 unfold cry; rw [Ev.str_size, Be.xo_length (by rw [Ev.str_size, strm_len, hs]), hs]
theorem xor_twice : ∀ (a b : List UInt8), a.length = b.length → List.zipWith (fun x y => x ^^^ y) (List.zipWith (fun x y => x ^^^ y) a b) b = a
 | [], [], _ => rfl
 | x :: a, y :: b, h => by
   simp only [List.zipWith_cons_cons]
   rw [xor_twice a b (by simpa using h), UInt8.xor_assoc, UInt8.xor_self, UInt8.xor_zero]
theorem cry_back (k : Nat → Int) (u : Int) (s : ByteArray) (hs : s.size = 48) : cry k u (cry k u s) = s := by
 unfold cry Be.xo
 rw [Ev.str_data, Ev.str_data, xor_twice _ _ (by rw [strm_len]; exact hs)]
 exact str_eta s
attribute [local irreducible] cry
theorem crypt (kn : Nat) (k : Nat → Int) (u : Int) (s : ByteArray) (hk : ∀ i, by8 (k i)) (hn : numOk u) (hs : s.size = 48) :
 Fnc Tryz.prog 140 [pt kn, .int .i64 u, .string s] [kB kn k] (Ret (.tuple #[.string (cry k u s), .int .i64 0]) [kB kn k]) := by
 have h1 := stream kn k u hk hn
 rw [show (48 : Int) = ((s.size : Nat) : Int) by omega] at h1
 have h2 := Be.xor s (str (strm k u)) (by omega)
 obtain ⟨x1, x2⟩ := xorS_eq (a := s) (b := str (strm k u)) (by rw [Ev.str_size, strm_len, hs])
 rw [x1, x2, show str (Be.xo s (str (strm k u))) = cry k u s by unfold cry; rfl] at h2
 refine fn_intro Tryz.func140 (by kernel_rfl) ?_
 repeat' ((conv => whnf); first
  | refine call_gr h1 (.blk takeC .nil) ?_ | refine call_val h2 ?_ | (refine ifs (fun h => ?_) (fun h => ?_) <;> try (exfalso; first | omega | with_reducible first | contradiction | exact h rfl)))
 all_goals (conv => whnf)
 all_goals exact fin_all ⟨rfl, rfl⟩
end Ctr
namespace Ctr
open Go Ev Sha Aes
def headS (u : Int) (kd : Nat) : ByteArray := Be.putS u 8 ++ str [UInt8.ofNat kd, 0, 0, 0, 0, 0, 0, 0]
def layB (u : Int) (kd : Nat) (s : ByteArray) : ByteArray := headS u kd ++ s
theorem headS_size {u : Int} (h : numOk u) (kd : Nat) : (headS u kd).size = 16 := by unfold headS; rw [ByteArray.size_append, putS8 h, Ev.str_size]; rfl
theorem layB_size {u : Int} (h : numOk u) (kd : Nat) {s : ByteArray} (hs : s.size = 48) : (layB u kd s).size = 64 := by unfold layB; rw [ByteArray.size_append, headS_size h, hs]
attribute [local irreducible] convert Builtin.copy_ Builtin.append_ pce enc Be.putS Be.putE strm cry
theorem lay_ (u : Int) (kd : Nat) (s : ByteArray) (hn : numOk u) (hk : kd = 1 ∨ kd = 2) (hs : s.size = 48) : Fnc Tryz.prog 114 [.int .i64 u, .int .i64 kd, .string s] [] (Ret (.string (layB u kd s)) []) := by
 have hp := Be.put u 8
 rw [putE8 hn] at hp
 have h8 := putS8 hn
 have hw : IntKind.u8.wrap (kd : Int) = ((UInt8.ofNat kd).toNat : Int) := by rw [IntKind.wrap_u8, UInt8.toNat_ofNat']; omega
 refine fn_intro Tryz.func114 (by kernel_rfl) ?_
 repeat' ((conv => whnf); first
  | refine call_val hp ?_ | (refine wr8 (fun z hz => ?_); rw [hw] at hz; subst hz) | refine b2s_lit (l := [UInt8.ofNat kd, 0, 0, 0, 0, 0, 0, 0]) (junk := []) rfl rfl rfl rfl rfl ?_ | refine need (by rw [show IntKind.i64.max = 9223372036854775807 from rfl, Ev.str_size, h8]; show ((8 + 8 : Nat) : Int) ≤ _; omega) ?_ | refine need (by rw [show IntKind.i64.max = 9223372036854775807 from rfl, ByteArray.size_append, Ev.str_size, h8, hs]; show ((8 + 8 + 48 : Nat) : Int) ≤ _; omega) ?_ | refine sv_id ?_ | refine nw (fun n => ?_) | refine bld ?_)
 all_goals (conv => whnf)
 all_goals exact fin_pick (A' := []) .nil ⟨rfl, rfl⟩
theorem seal_ (kn : Nat) (k : Nat → Int) (u : Int) (s : ByteArray) (hk : ∀ i, by8 (k i)) (hn : numOk u) (hs : s.size = 48) :
 Fnc Tryz.prog 186 [pt kn, .int .i64 u, .string s] [kB kn k] (Ret (.tuple #[.string (layB u 1 (cry k u s)), .int .i64 0]) [kB kn k]) := by
 have h1 := crypt kn k u s hk hn hs
 have h2 := lay_ u 1 (cry k u s) hn (.inl rfl) (cry_size k u s hs)
 have hr := right_ok u hn
 refine fn_intro Tryz.func186 (by kernel_rfl) ?_
 repeat' ((conv => whnf); first
  | refine call_val hr ?_ | refine call_gr h1 (.blk takeC .nil) ?_ | refine call_val h2 ?_ | (refine ifs (fun h => ?_) (fun h => ?_) <;> try (exfalso; first | omega | with_reducible first | contradiction | exact h rfl)))
 all_goals (conv => whnf)
 all_goals exact fin_all ⟨rfl, rfl⟩
theorem clay (u : Int) (s : ByteArray) (hn : numOk u) (hs : s.size = 48) :
 Fnc Tryz.prog 56 [.int .i64 u, .string s] [] (Ret (.tuple #[.string (layB u 2 s), .int .i64 0]) []) := by
 have h2 := lay_ u 2 s hn (.inr rfl) hs
 have hr := right_ok u hn
 refine fn_intro Tryz.func56 (by kernel_rfl) ?_
 repeat' ((conv => whnf); first
  | refine call_val hr ?_ | refine call_val h2 ?_ | (refine ifs (fun h => ?_) (fun h => ?_) <;> try (exfalso; first | omega | with_reducible first | contradiction | exact h rfl)))
 all_goals (conv => whnf)
 all_goals exact fin_nil ⟨rfl, rfl⟩
def byte8 (s : ByteArray) : Int := byteAt s 8
def z7 : ByteArray := str (List.replicate 7 0)
def kdOk (s : ByteArray) : Prop := s.size = 64 ∧ Be.getE (s.extract 0 8) = 0 ∧ numOk (Be.getN (s.extract 0 8)) ∧ (byte8 s = 1 ∨ byte8 s = 2) ∧ s.extract 9 16 = z7
open Classical in
noncomputable def kdN (s : ByteArray) : Int := if kdOk s then Be.getN (s.extract 0 8) else 0
open Classical in
noncomputable def kdK (s : ByteArray) : Int := if kdOk s then byte8 s else 0
open Classical in
noncomputable def kdE (s : ByteArray) : Int := if kdOk s then 0 else 6
theorem kd_no {s : ByteArray} (h : ¬ kdOk s) : Ending.returned (oneOrMany [.int .i64 0, .int .i64 0, .int .i64 6]) = .returned (.tuple #[.int .i64 (kdN s), .int .i64 (kdK s), .int .i64 (kdE s)]) := by
 unfold kdN kdK kdE; rw [if_neg h, if_neg h, if_neg h]; rfl
theorem kd_yes {s : ByteArray} (h : kdOk s) : Ending.returned (oneOrMany [.int .i64 (Be.getN (s.extract 0 8)), .int .i64 (byteAt s 8), .int .i64 0]) = .returned (.tuple #[.int .i64 (kdN s), .int .i64 (kdK s), .int .i64 (kdE s)]) := by
 unfold kdN kdK kdE; rw [if_pos h, if_pos h, if_pos h]; rfl
attribute [local irreducible] Be.getE Be.getN z7 byteAt
theorem kind_ (s : ByteArray) (hs : s.size ≤ 140737488355328) : Fnc Tryz.prog 139 [.string s] [] (Ret (.tuple #[.int .i64 (kdN s), .int .i64 (kdK s), .int .i64 (kdE s)]) []) := by
 have hg := Be.get (s.extract 0 8)
 have hz7 : str (List.replicate 7 0) = z7 := by unfold z7; rfl
 have hb := Be.byteAt_bd s 8
 have go : ∀ (b : Bool), (b = true ↔ numOk (Be.getN (s.extract 0 8))) → Fnc Tryz.prog 113 [.int .i64 (Be.getN (s.extract 0 8))] [] (Ret (.bool b) []) := fun b hb => by
  cases b
  · exact right_no _ (fun h => by have := hb.2 h; cases this)
  · exact right_ok _ (hb.1 rfl)
 by_cases hz : s.extract 9 16 = z7
 · by_cases hN : numOk (Be.getN (s.extract 0 8))
   · have hr := right_ok _ hN
     refine fn_intro Tryz.func139 (by kernel_rfl) ?_
     repeat' ((conv => whnf); first
      | refine call_val hg ?_ | refine call_val hr ?_ | refine draw_tree 5 (.take 0 (.take 1 (.take 2 (.take 3 (.only 4 (.take 5 (.take 6 (.take 7 (.take 8 (.take 9 (.take 10 (.take 11 (.take 12 (.take 13 (.take 14 (.take 15 (.take 16 (.take 17 (.only 18 (.only 19 (.take 20 (.take 21 .nil)))))))))))))))))))))) [] rfl (by kernel_rfl) ?_ | refine kept_nil ?_ | refine sv_eq (a := s.extract 0 8) rfl ?_ | refine sv_eq (a := s.extract 9 16) rfl ?_ | refine zv_eq (a := byteAt s 8) rfl ?_ | refine need ⟨by omega, by omega⟩ ?_ | refine mk_row rfl rfl rfl rfl rfl (by decide) (by decide) (by decide) (fun n => ?_) | (refine b2s_row (t := 5) (l := List.replicate 7 0) (junk := []) (by simp [u8s]) rfl rfl rfl (by simp) ?_; rw [hz7]) | refine ift hz ?_ | (refine wr (fun z hz => ?_); (try rw [Int.tdiv_eq_ediv_of_nonneg (by omega)] at hz); rw [w64 (by omega) (by omega)] at hz; subst hz) | (refine ifs (fun h => ?_) (fun h => ?_) <;> try (exfalso; first | omega | with_reducible first | contradiction | exact h rfl)))
     all_goals (conv => whnf)
     all_goals first
      | exact fin_pick (A' := []) .nil ⟨kd_yes ⟨by omega, by omega, hN, by unfold byte8; omega, hz⟩, rfl⟩ | exact fin_pick (A' := []) .nil ⟨kd_no (fun ⟨x1, x2, x3, x4, x5⟩ => by unfold byte8 at x4; omega), rfl⟩
   · have hr := right_no _ hN
     refine fn_intro Tryz.func139 (by kernel_rfl) ?_
     repeat' ((conv => whnf); first
      | refine call_val hg ?_ | refine call_val hr ?_ | refine draw_tree 5 (.take 0 (.take 1 (.take 2 (.take 3 (.only 4 (.take 5 (.take 6 (.take 7 (.take 8 (.take 9 (.take 10 (.take 11 (.take 12 (.take 13 (.take 14 (.take 15 (.take 16 (.take 17 (.only 18 (.only 19 (.take 20 (.take 21 .nil)))))))))))))))))))))) [] rfl (by kernel_rfl) ?_ | refine kept_nil ?_ | refine sv_eq (a := s.extract 0 8) rfl ?_ | refine zv_eq (a := byteAt s 8) rfl ?_ | refine need ⟨by omega, by omega⟩ ?_ | (refine wr (fun z hz => ?_); (try rw [Int.tdiv_eq_ediv_of_nonneg (by omega)] at hz); rw [w64 (by omega) (by omega)] at hz; subst hz) | (refine ifs (fun h => ?_) (fun h => ?_) <;> try (exfalso; first | omega | with_reducible first | contradiction | exact h rfl)))
     all_goals (conv => whnf)
     all_goals exact fin_pick (A' := []) .nil ⟨kd_no (fun ⟨x1, x2, x3, x4, x5⟩ => hN x3), rfl⟩
 · by_cases hN : numOk (Be.getN (s.extract 0 8))
   · have hr := right_ok _ hN
     refine fn_intro Tryz.func139 (by kernel_rfl) ?_
     repeat' ((conv => whnf); first
      | refine call_val hg ?_ | refine call_val hr ?_ | refine draw_tree 5 (.take 0 (.take 1 (.take 2 (.take 3 (.only 4 (.take 5 (.take 6 (.take 7 (.take 8 (.take 9 (.take 10 (.take 11 (.take 12 (.take 13 (.take 14 (.take 15 (.take 16 (.take 17 (.only 18 (.only 19 (.take 20 (.take 21 .nil)))))))))))))))))))))) [] rfl (by kernel_rfl) ?_ | refine kept_nil ?_ | refine sv_eq (a := s.extract 0 8) rfl ?_ | refine sv_eq (a := s.extract 9 16) rfl ?_ | refine zv_eq (a := byteAt s 8) rfl ?_ | refine need ⟨by omega, by omega⟩ ?_ | refine mk_row rfl rfl rfl rfl rfl (by decide) (by decide) (by decide) (fun n => ?_) | (refine b2s_row (t := 5) (l := List.replicate 7 0) (junk := []) (by simp [u8s]) rfl rfl rfl (by simp) ?_; rw [hz7]) | refine iff' hz ?_ | (refine wr (fun z hz => ?_); (try rw [Int.tdiv_eq_ediv_of_nonneg (by omega)] at hz); rw [w64 (by omega) (by omega)] at hz; subst hz) | (refine ifs (fun h => ?_) (fun h => ?_) <;> try (exfalso; first | omega | with_reducible first | contradiction | exact h rfl)))
     all_goals (conv => whnf)
     all_goals exact fin_pick (A' := []) .nil ⟨kd_no (fun ⟨x1, x2, x3, x4, x5⟩ => hz x5), rfl⟩
   · have hr := right_no _ hN
     refine fn_intro Tryz.func139 (by kernel_rfl) ?_
     repeat' ((conv => whnf); first
      | refine call_val hg ?_ | refine call_val hr ?_ | refine draw_tree 5 (.take 0 (.take 1 (.take 2 (.take 3 (.only 4 (.take 5 (.take 6 (.take 7 (.take 8 (.take 9 (.take 10 (.take 11 (.take 12 (.take 13 (.take 14 (.take 15 (.take 16 (.take 17 (.only 18 (.only 19 (.take 20 (.take 21 .nil)))))))))))))))))))))) [] rfl (by kernel_rfl) ?_ | refine kept_nil ?_ | refine sv_eq (a := s.extract 0 8) rfl ?_ | refine zv_eq (a := byteAt s 8) rfl ?_ | refine need ⟨by omega, by omega⟩ ?_ | (refine wr (fun z hz => ?_); (try rw [Int.tdiv_eq_ediv_of_nonneg (by omega)] at hz); rw [w64 (by omega) (by omega)] at hz; subst hz) | (refine ifs (fun h => ?_) (fun h => ?_) <;> try (exfalso; first | omega | with_reducible first | contradiction | exact h rfl)))
     all_goals (conv => whnf)
     all_goals exact fin_pick (A' := []) .nil ⟨kd_no (fun ⟨x1, x2, x3, x4, x5⟩ => hN x3), rfl⟩
end Ctr
namespace Ctr
open Go Ev Sha Aes
theorem layB_L {u : Int} (hn : numOk u) (kd : Nat) (s : ByteArray) : layB u kd s = str (Be.bb 8 u.toNat ++ ([UInt8.ofNat kd, 0, 0, 0, 0, 0, 0, 0] ++ s.data.toList)) := by
 unfold layB headS
 rw [Be.putS_ok (putE8 hn), ← str_append, ← str_append, str_eta, ByteArray.append_assoc]
 rfl
theorem bb8 {m : Nat} (h : m ≤ 1099511627776) : Be.bb 8 m = 0 :: Be.bb 7 m := by
 show UInt8.ofNat (m / 256 ^ 7 % 256) :: Be.bb 7 m = _
 rw [Nat.div_eq_of_lt (by omega)]; rfl
theorem getE_8 {m : Nat} (h : m ≤ 1099511627776) : Be.getE (str (Be.bb 8 m)) = 0 := by
 rw [bb8 h]
 unfold Be.getE
 rw [Ev.str_size, List.length_cons, Be.bb_length, if_neg (by omega), if_neg (by omega), if_neg]
 rintro ⟨_, h2⟩
 have : byteAt (str (0 :: Be.bb 7 m)) 0 = 0 := rfl
 omega
theorem getN_8 {m : Nat} (h : m ≤ 1099511627776) : Be.getN (str (Be.bb 8 m)) = (m : Int) := by
 unfold Be.getN
 rw [if_pos (getE_8 h), Ev.str_data, Be.bval_bb, Nat.mod_eq_of_lt (by omega)]
theorem layB_ok {u : Int} (hn : numOk u) {kd : Nat} (hk : kd = 1 ∨ kd = 2) {s : ByteArray} (hs : s.size = 48) :
 kdOk (layB u kd s) ∧ Be.getN ((layB u kd s).extract 0 8) = u ∧ byte8 (layB u kd s) = kd ∧ (layB u kd s).extract 16 64 = s := by
 have hm : u.toNat ≤ 1099511627776 := by have := hn.2; omega
 have hu : ((u.toNat : Nat) : Int) = u := by have := hn.1; omega
 have hl : s.data.toList.length = 48 := hs
 have hb := Be.bb_length 8 u.toNat
 have e0 : (layB u kd s).extract 0 8 = str (Be.bb 8 u.toNat) := by
  rw [layB_L hn, Geom.ext_str, List.take_left' hb, List.drop_zero]
 have e1 : (layB u kd s).extract 9 16 = z7 := by
  rw [layB_L hn, Geom.ext_str, List.take_append, hb, List.take_of_length_le (by rw [hb]; omega)]
  rw [List.drop_append, hb, List.drop_of_length_le (by rw [hb]; omega)]
  rw [List.take_append_of_le_length (by show 8 ≤ 8; omega)]
  rfl
 have e2 : (layB u kd s).extract 16 64 = s := by
  rw [layB_L hn, Geom.ext_str, List.take_of_length_le (by simp [hb, hl])]
  rw [List.drop_append, hb, List.drop_of_length_le (by rw [hb]; omega), List.drop_append]
  simp
  exact str_eta s
 have e3 : byte8 (layB u kd s) = kd := by
  rw [layB_L hn]
  unfold byte8 byteAt
  rw [Ev.str_data, List.getElem?_append_right (by rw [hb]; omega), hb]
  rcases hk with rfl | rfl <;> rfl
 refine ⟨⟨layB_size hn kd hs, by rw [e0]; exact getE_8 hm, by rw [e0, getN_8 hm, hu]; exact hn, ?_, e1⟩, by rw [e0, getN_8 hm, hu], e3, e2⟩
 rw [e3]; omega
def bodyS (k : Nat → Int) (s : ByteArray) : ByteArray := if byte8 s = 2 then s.extract 16 64 else cry k (Be.getN (s.extract 0 8)) (s.extract 16 64)
theorem body_seal (k : Nat → Int) {u : Int} (hn : numOk u) {s : ByteArray} (hs : s.size = 48) : bodyS k (layB u 1 (cry k u s)) = s := by
 obtain ⟨h1, h2, h3, h4⟩ := layB_ok hn (.inl rfl) (cry_size k u s hs)
 unfold bodyS
 rw [h3, if_neg (by decide), h2, h4, cry_back k u s hs]
theorem body_plain (k : Nat → Int) {u : Int} (hn : numOk u) {s : ByteArray} (hs : s.size = 48) : bodyS k (layB u 2 s) = s := by
 obtain ⟨h1, h2, h3, h4⟩ := layB_ok hn (.inr rfl) hs
 unfold bodyS
 rw [h3, if_pos (by rfl), h4]
attribute [local irreducible] Be.getE Be.getN z7 byteAt cry layB
theorem unseal_ (kn : Nat) (k : Nat → Int) (s : ByteArray) (hk : ∀ i, by8 (k i)) (h : kdOk s) : Fnc Tryz.prog 80 [pt kn, .string s] [kB kn k] (Ret (.tuple #[.string (bodyS k s), .int .i64 0]) [kB kn k]) := by
 have hsz := h.1
 have hkd := kind_ s (by omega)
 rw [show kdN s = Be.getN (s.extract 0 8) by unfold kdN; rw [if_pos h], show kdK s = byte8 s by unfold kdK; rw [if_pos h], show kdE s = 0 by unfold kdE; rw [if_pos h]] at hkd
 have h48 : (s.extract 16 64).size = 48 := by rw [ByteArray.size_extract]; omega
 have hc := crypt kn k (Be.getN (s.extract 0 8)) (s.extract 16 64) hk h.2.2.1 h48
 by_cases h2 : byte8 s = 2
 · rw [show bodyS k s = s.extract 16 64 by unfold bodyS; rw [if_pos h2]]
   rw [h2] at hkd
   refine fn_intro Tryz.func80 (by kernel_rfl) ?_
   repeat' ((conv => whnf); first
    | refine call_val hkd ?_ | refine need ⟨by omega, by omega, by omega⟩ ?_ | refine sv_eq (a := s.extract 16 64) (by rw [show Int.toNat (s.size : Int) = 64 by omega]; rfl) ?_ | (refine ifs (fun h => ?_) (fun h => ?_) <;> try (exfalso; first | omega | with_reducible first | contradiction | exact h rfl)))
   all_goals (conv => whnf)
   all_goals exact fin_all ⟨rfl, rfl⟩
 · rw [show bodyS k s = cry k (Be.getN (s.extract 0 8)) (s.extract 16 64) by unfold bodyS; rw [if_neg h2]]
   generalize byte8 s = b8 at h2 hkd
   refine fn_intro Tryz.func80 (by kernel_rfl) ?_
   repeat' ((conv => whnf); first
    | refine call_val hkd ?_ | refine need ⟨by omega, by omega, by omega⟩ ?_ | refine sv_eq (a := s.extract 16 64) (by rw [show Int.toNat (s.size : Int) = 64 by omega]; rfl) ?_ | refine call_gr hc (.blk takeC .nil) ?_ | (refine ifs (fun h => ?_) (fun h => ?_) <;> try (exfalso; first | omega | with_reducible first | contradiction | exact h rfl)))
   all_goals (conv => whnf)
   all_goals exact fin_all ⟨rfl, rfl⟩
end Ctr
namespace Aut
open Go Ev Sha Aes Orc Node Rec Chn Jrn Cau Sto Ivs Ctr
open Rig (Fnc_takeR RigP Rg rgM z64 app_of RigA)
open Tree (TreP TreA Tre treM)
structure VA where
 vn : Nat
 kn : Nat
 wn : Nat
structure VP where
 k : Nat → Int
 x : RwP
 n : Int
abbrev vB (B : VA) (sn : Nat) (v : VP) : Blk := ⟨B.vn, .cells [pt sn, pt B.kn, pt B.wn, .int .i64 v.n] 125⟩
def vM (B : VA) (sn : Nat) (v : VP) : List Blk := [vB B sn v, kB B.kn v.k, rwB B.wn v.x]
theorem getOK_of : ∀ {l : List Value} {n : Nat} {v : Value} {k : Value → Prop}, l[n]? = some v → k v → getOK l n k
 | [], n, v, k, h, _ => by cases h
 | a :: t, 0, v, k, h, hk => by
   have : a = v := by simpa using h
   subst this; exact hk
 | a :: t, n + 1, v, k, h, hk => getOK_of (l := t) (n := n) (by simpa using h) hk
theorem regC_iv {x : RgV} : (regC x)[65]? = some (.int .i64 x.iv) := rfl
attribute [local irreducible] dgV stC regC keyT
theorem new_ok (sn : Nat) (x : StP) (key : ByteArray) (h : key.size = 32) (hi : 1 ≤ x.g2 ∧ x.g2 ≤ 1099511627776 ∧ 0 ≤ x.is.iv ∧ x.is.iv ≤ x.g2) :
 Fnc Tryz.prog 38 [pt sn, .string key] [stB sn x] (fun e A => ∃ B : VA, e = .returned (.tuple #[pt B.vn, .int .i64 0]) ∧ A = vM B sn ⟨keyT key, ⟨x.is.iv, x.is.iv, x.g2⟩, 0⟩ ++ [stB sn x]) := by
 have h1 := new_ key h
 have h2 := reg_ sn x
 have hiv := regC_iv (x := x.is)
 obtain ⟨rl, erl⟩ : ∃ l, l = regC x.is := ⟨_, rfl⟩
 rw [← erl] at h2 hiv
 clear erl
 have h3 := geom_ sn x
 have h4 := inew x.is.iv x.g2 hi
 refine fn_intro Tryz.func38 (by kernel_rfl) ?_
 repeat' ((conv => whnf); first
  | (refine call_g h1 .nil (fun e A' hq => ?_); obtain ⟨kn, h5, h6⟩ := hq; subst h5; subst h6) | refine call_gr h2 (.blk takeC .nil) ?_ | refine getOK_of hiv ?_ | refine call_gr h3 (.blk takeC .nil) ?_ | (refine call_g h4 .nil (fun e A' hq => ?_); obtain ⟨wn, h5, h6⟩ := hq; subst h5; subst h6) | refine nw (fun n => ?_) | refine bld ?_ | (refine ifs (fun h => ?_) (fun h => ?_) <;> try (exfalso; first | omega | with_reducible first | contradiction | exact h rfl)))
 all_goals (conv => whnf)
 all_goals exact fin_g (A := [⟨n, _⟩, ⟨kn, _⟩, ⟨wn, _⟩, stB sn x]) (.blk takeC (.blk takeC (.blk takeC (.blk takeC .nil)))) ⟨⟨n, kn, wn⟩, rfl, rfl⟩
def numR (r : RigP) (V : StoV) (x : RwP) : RigP := if x.next < x.top then r else srF r (V.is.to (needN x)).lay
def numV (V : StoV) (x : RwP) : StoV := if x.next < x.top then V else { V with is := V.is.to (needN x), next := V.next.to (needN x) }
def numX (x : RwP) : RwP := ⟨x.next + 1, if x.next < x.top then x.top else needN x, x.many⟩
structure VOk (r : RigP) (V : StoV) (x : RwP) : Prop where
 row : rowOk x
 top : V.is.iv = x.top
 reg : V.is.ok
 fine : Fine r
 ok : V.failed = 0
 att : V.is.at_ = true
theorem raiseO_ok {r : RigP} {V : StoV} {x : RwP} (h : VOk r V x) (h1 : ¬ x.next < x.top) (h2 : x.next < x.many) : raiseO r V (needN x) = (srF r (V.is.to (needN x)).lay, { V with is := V.is.to (needN x), next := V.next.to (needN x) }, 0) := by
 unfold raiseO
 rw [if_pos]
 have h3 := h.row
 have h4 := h.top
 unfold rowOk at h3
 unfold ivOk needN
 rw [if_neg (by omega)]
 omega
attribute [local irreducible] srF RgV.lay Sto.c rowK
theorem number_ (a : RigA) (r : RigP) (A : StoA) (V : StoV) (B : VA) (v : VP) (hrn : V.rn = a.rn) (h : VOk r V v.x) (hn : v.x.next < v.x.many) :
 Fnc Tryz.prog 185 [pt B.vn] (rgM ⟨a, r⟩ ++ [stB A.sn (Sto.c ⟨A, V⟩), vB B A.sn v, rwB B.wn v.x])
  (Ret (.tuple #[.int .i64 v.x.next, .int .i64 0]) (rgM ⟨a, numR r V v.x⟩ ++ [stB A.sn (Sto.c ⟨A, numV V v.x⟩), vB B A.sn v, rwB B.wn (numX v.x)])) := by
 have hrow := h.row
 have h1 := need_ B.wn v.x hrow
 obtain ⟨g0, g1, g2, g3⟩ := hrow
 by_cases hlt : v.x.next < v.x.top
 · rw [show needB v.x = false by unfold needB; exact decide_eq_false (by omega)] at h1
   have h2 := itake B.wn v.x h.row hlt
   rw [show numR r V v.x = r by unfold numR; rw [if_pos hlt], show numV V v.x = V by unfold numV; rw [if_pos hlt], show numX v.x = { v.x with next := v.x.next + 1 } by unfold numX; rw [if_pos hlt]]
   refine fn_intro Tryz.func185 (by kernel_rfl) ?_
   repeat' ((conv => whnf); first
    | refine call_gr h1 (.blk takeC .nil) ?_ | refine call_gr h2 (.blk takeC .nil) ?_ | refine ld1_lit ?_)
   all_goals (conv => whnf)
   all_goals exact fin_g (A := rgM _ ++ [⟨A.sn, _⟩, ⟨B.vn, _⟩, ⟨B.wn, _⟩]) (.grp takeG (.blk takeC (.blk takeC (.blk takeC .nil)))) ⟨rfl, rfl⟩
 · rw [show needB v.x = true by unfold needB; exact decide_eq_true (by omega)] at h1
   have hr := raise_ a r A V (needN v.x) hrn h.reg h.fine h.ok
   rw [raiseO_ok h hlt hn] at hr
   have hN : needN v.x = min (v.x.top + 16) v.x.many := by unfold needN; rw [if_neg (by omega)]
   have h2 := iraise B.wn v.x (needN v.x) (by omega)
   have h3 := itake B.wn { v.x with top := needN v.x } ⟨by show 0 ≤ v.x.next; omega, by show v.x.next ≤ needN v.x; omega, by show needN v.x ≤ v.x.many; omega, by show v.x.many ≤ _; omega⟩ (by show v.x.next < needN v.x; omega)
   rw [show numR r V v.x = srF r (V.is.to (needN v.x)).lay by unfold numR; rw [if_neg hlt], show numV V v.x = { V with is := V.is.to (needN v.x), next := V.next.to (needN v.x) } by unfold numV; rw [if_neg hlt], show numX v.x = ⟨v.x.next + 1, needN v.x, v.x.many⟩ by unfold numX; rw [if_neg hlt]]
   refine fn_intro Tryz.func185 (by kernel_rfl) ?_
   repeat' ((conv => whnf); first
    | refine call_gr h1 (.blk takeC .nil) ?_ | refine call_gr hr (.grp takeG (.blk takeC .nil)) ?_ | refine call_gr h2 (.blk takeC .nil) ?_ | refine call_gr h3 (.blk takeC .nil) ?_ | refine ld1_lit ?_ | (refine ifs (fun h => ?_) (fun h => ?_) <;> try (exfalso; first | omega | with_reducible first | contradiction | exact h rfl)))
   all_goals (conv => whnf)
   all_goals exact fin_g (A := rgM _ ++ [⟨A.sn, _⟩, ⟨B.vn, _⟩, ⟨B.wn, _⟩]) (.grp takeG (.blk takeC (.blk takeC (.blk takeC .nil)))) ⟨rfl, rfl⟩
def sealX (v : VP) : VP := ⟨v.k, numX v.x, v.n + 1⟩
def sealB (v : VP) (s : ByteArray) : ByteArray := layB v.x.next 1 (cry v.k v.x.next s)
theorem num_ok {r : RigP} {V : StoV} {x : RwP} (h : VOk r V x) (hn : x.next < x.many) : numOk x.next := by
 have := h.row; unfold rowOk at this; unfold numOk; omega
theorem seal_go (a : RigA) (r : RigP) (A : StoA) (V : StoV) (B : VA) (v : VP) (s : ByteArray) (hrn : V.rn = a.rn) (h : VOk r V v.x) (hn : v.x.next < v.x.many) (hk : ∀ i, by8 (v.k i)) (hs : s.size = 48) (hv : 0 ≤ v.n ∧ v.n < 1099511627776) :
 Fnc Tryz.prog 133 [pt B.vn, .string s] (rgM ⟨a, r⟩ ++ (stB A.sn (Sto.c ⟨A, V⟩) :: vM B A.sn v))
  (Ret (.tuple #[.string (sealB v s), .int .i64 0]) (rgM ⟨a, numR r V v.x⟩ ++ (stB A.sn (Sto.c ⟨A, numV V v.x⟩) :: vM B A.sn (sealX v)))) := by
 have h1 := failed_ A.sn (Sto.c ⟨A, V⟩) (by unfold Sto.c; exact h.ok)
 have h2 := number_ a r A V B v hrn h hn
 have h3 := seal_ B.kn v.k v.x.next s hk (num_ok h hn) hs
 unfold vM
 refine fn_intro Tryz.func133 (by kernel_rfl) ?_
 repeat' ((conv => whnf); first
  | refine call_gr h1 (.blk takeC .nil) ?_ | refine call_gr h2 (.grp takeG (.blk takeC (.blk takeC (.blk takeC .nil)))) ?_ | refine call_gr h3 (.blk takeC .nil) ?_ | refine ld1_lit ?_ | refine st_lit rfl ?_ | refine need (by first | rfl | omega) ?_ | (refine wr (fun z hz => ?_); (try rw [Int.tdiv_eq_ediv_of_nonneg (by omega)] at hz); rw [w64 (by omega) (by omega)] at hz; subst hz) | (refine ifs (fun h => ?_) (fun h => ?_) <;> try (exfalso; first | omega | with_reducible first | contradiction | exact h rfl)))
 all_goals (conv => whnf)
 all_goals exact fin_g (A := rgM _ ++ [⟨A.sn, _⟩, ⟨B.vn, _⟩, ⟨B.kn, _⟩, ⟨B.wn, _⟩]) (.grp takeG (.blk takeC (.blk takeC (.blk takeC (.blk takeC .nil))))) ⟨rfl, rfl⟩
end Aut
namespace Aut
open Go Ev Sha Aes Orc Node Rec Chn Jrn Cau Sto Ivs Ctr
open Rig (Fnc_takeR RigP Rg rgM z64 app_of RigA)
open Tree (TreP TreA Tre treM)
attribute [local irreducible] srF RgV.lay Sto.c rowK sysM z64 getO putO bodyS kdE kdN kdK
theorem store_ (B : VA) (sn : Nat) (v : VP) : Fnc Tryz.prog 21 [pt B.vn] [vB B sn v] (Ret (pt sn) [vB B sn v]) := by
 refine fn_intro Tryz.func21 (by kernel_rfl) ?_
 repeat' ((conv => whnf); first
  | refine ld1_lit ?_)
 all_goals (conv => whnf)
 all_goals exact fin_all ⟨rfl, rfl⟩
theorem sealed_ (B : VA) (sn : Nat) (v : VP) : Fnc Tryz.prog 72 [pt B.vn] [vB B sn v] (Ret (.int .i64 v.n) [vB B sn v]) := by
 refine fn_intro Tryz.func72 (by kernel_rfl) ?_
 repeat' ((conv => whnf); first
  | refine ld1_lit ?_)
 all_goals (conv => whnf)
 all_goals exact fin_all ⟨rfl, rfl⟩
theorem left_ (B : VA) (sn : Nat) (v : VP) (h : rowOk v.x) : Fnc Tryz.prog 73 [pt B.vn] [vB B sn v, rwB B.wn v.x] (Ret (.int .i64 (v.x.many - v.x.next)) [vB B sn v, rwB B.wn v.x]) := by
 have h1 := ileft B.wn v.x h
 refine fn_intro Tryz.func73 (by kernel_rfl) ?_
 repeat' ((conv => whnf); first
  | refine call_gr h1 (.blk takeC .nil) ?_ | refine ld1_lit ?_)
 all_goals (conv => whnf)
 all_goals exact fin_g (A := [⟨B.vn, _⟩, ⟨B.wn, _⟩]) (.blk takeC (.blk takeC .nil)) ⟨rfl, rfl⟩
structure Can (a : RigA) (o : Orc) (A : StoA) (V : StoV) : Prop where
 ok : SOk ⟨A, V⟩ a.rn o.on
 att : V.is.at_ = true
 fl : V.failed = 0
 len : o.ts.length ≤ 1099511610000
theorem setv (a : RigA) (r : RigP) (o : Orc) (A : StoA) (V : StoV) (B : VA) (v : VP) (d l : Int) (s : ByteArray) (h : Can a o A V) (hk : kdOk s) :
 Fnc Tryz.prog 134 [pt B.vn, .int .i64 d, .int .i64 l, .string s] (sysM a r o A V ++ [vB B A.sn v])
  (RetO o (putO r o.ts V d l s).ts (fun o' => sysM a (putO r o.ts V d l s).r o' A ((putO r o.ts V d l s).V.fl (putO r o.ts V d l s).e) ++ [vB B A.sn v]) (.int .i64 (putO r o.ts V d l s).e)) := by
 have h1 := put_ a r o A V d l s h.ok h.att h.fl h.len
 have h2 := kind_ s (by have := hk.1; omega)
 rw [show kdE s = 0 by unfold kdE; rw [if_pos hk]] at h2
 refine fn_intro Tryz.func134 (by kernel_rfl) ?_
 repeat' ((conv => whnf); first
  | refine call_val h2 ?_ | refine call_go h1 (.one takeE) (fun o1 a1 a2 => ?_) | refine ld1_lit ?_ | (refine ifs (fun h => ?_) (fun h => ?_) <;> try (exfalso; first | omega | with_reducible first | contradiction | exact h rfl)))
 all_goals (conv => whnf)
 all_goals exact fin_g (A := sysM _ _ o1 _ _ ++ [⟨B.vn, _⟩]) (.grp takeE (.blk takeC .nil)) ⟨o1, a1, a2, rfl, rfl⟩
theorem num0 : numOk 0 := ⟨by omega, by omega⟩
theorem plain_ (a : RigA) (r : RigP) (o : Orc) (A : StoA) (V : StoV) (B : VA) (v : VP) (d l : Int) (s : ByteArray) (h : Can a o A V) (hs : s.size = 48) :
 Fnc Tryz.prog 20 [pt B.vn, .int .i64 d, .int .i64 l, .string s] (sysM a r o A V ++ [vB B A.sn v])
  (RetO o (putO r o.ts V d l (layB 0 2 s)).ts (fun o' => sysM a (putO r o.ts V d l (layB 0 2 s)).r o' A ((putO r o.ts V d l (layB 0 2 s)).V.fl (putO r o.ts V d l (layB 0 2 s)).e) ++ [vB B A.sn v]) (.int .i64 (putO r o.ts V d l (layB 0 2 s)).e)) := by
 have h1 := put_ a r o A V d l (layB 0 2 s) h.ok h.att h.fl h.len
 have h2 := clay 0 s num0 hs
 refine fn_intro Tryz.func20 (by kernel_rfl) ?_
 repeat' ((conv => whnf); first
  | refine call_val h2 ?_ | refine call_go h1 (.one takeE) (fun o1 a1 a2 => ?_) | refine ld1_lit ?_ | (refine ifs (fun h => ?_) (fun h => ?_) <;> try (exfalso; first | omega | with_reducible first | contradiction | exact h rfl)))
 all_goals (conv => whnf)
 all_goals exact fin_g (A := sysM _ _ o1 _ _ ++ [⟨B.vn, _⟩]) (.grp takeE (.blk takeC .nil)) ⟨o1, a1, a2, rfl, rfl⟩
theorem clearv (a : RigA) (r : RigP) (o : Orc) (A : StoA) (V : StoV) (B : VA) (v : VP) (d l : Int) (h : Can a o A V) :
 Fnc Tryz.prog 78 [pt B.vn, .int .i64 d, .int .i64 l] (sysM a r o A V ++ [vB B A.sn v])
  (RetO o (putO r o.ts V d l z64).ts (fun o' => sysM a (putO r o.ts V d l z64).r o' A ((putO r o.ts V d l z64).V.fl (putO r o.ts V d l z64).e) ++ [vB B A.sn v]) (.int .i64 (putO r o.ts V d l z64).e)) := by
 have h1 := clear_ a r o A V d l h.ok h.att h.fl h.len
 refine fn_intro Tryz.func78 (by kernel_rfl) ?_
 repeat' ((conv => whnf); first
  | refine call_go h1 (.one takeE) (fun o1 a1 a2 => ?_) | refine ld1_lit ?_)
 all_goals (conv => whnf)
 all_goals exact fin_g (A := sysM _ _ o1 _ _ ++ [⟨B.vn, _⟩]) (.grp takeE (.blk takeC .nil)) ⟨o1, a1, a2, rfl, rfl⟩
def z48 : ByteArray := str (List.replicate 48 0)
def readS (k : Nat → Int) (q : OutR) : ByteArray := if q.e ≠ 0 then ByteArray.empty else if q.is = false then z48 else bodyS k q.s
theorem readv (a : RigA) (r : RigP) (o : Orc) (A : StoA) (V : StoV) (B : VA) (v : VP) (d l : Int) (h : Can a o A V) (hb : ∀ i, by8 (v.k i)) (q : OutR) (eq : q = getO r o.ts V d l) (hk : q.e = 0 → q.is = true → kdOk q.s) :
 Fnc Tryz.prog 32 [pt B.vn, .int .i64 d, .int .i64 l] (sysM a r o A V ++ [vB B A.sn v, kB B.kn v.k])
  (RetO o q.ts (fun o' => sysM a q.r o' A (q.V.fl q.e) ++ [vB B A.sn v, kB B.kn v.k]) (.tuple #[.string (readS v.k q), .int .i64 q.e])) := by
 have h1 := get_ a r o A V d l h.ok h.att h.fl h.len
 rw [← eq] at h1
 clear eq
 by_cases he : q.e = 0
 · rw [he] at h1 ⊢
   by_cases hi : q.is = false
   · rw [hi] at h1
     rw [show readS v.k q = z48 by unfold readS; rw [if_neg (by simp [he]), if_pos hi]]
     have hz : str (List.replicate 48 0) = z48 := by unfold z48; rfl
     refine fn_intro Tryz.func32 (by kernel_rfl) ?_
     repeat' ((conv => whnf); first
      | refine call_go h1 (.one takeE) (fun o1 a1 a2 => ?_) | refine mk_row rfl rfl rfl rfl rfl (by decide) (by decide) (by decide) (fun n => ?_) | (refine b2s_row (t := 5) (l := List.replicate 48 0) (junk := []) (by simp [u8s]) rfl rfl rfl (by simp) ?_; rw [hz]) | refine ld1_lit ?_ | (refine ifs (fun h => ?_) (fun h => ?_) <;> try (exfalso; first | omega | with_reducible first | contradiction | exact h rfl)))
     all_goals (conv => whnf)
     all_goals exact fin_g (A := sysM _ _ o1 _ _ ++ [⟨B.vn, _⟩, ⟨B.kn, _⟩]) (.grp takeE (.blk takeC (.blk takeC .nil))) ⟨o1, a1, a2, rfl, rfl⟩
   · have hi' : q.is = true := by simpa using hi
     rw [hi'] at h1
     rw [show readS v.k q = bodyS v.k q.s by unfold readS; rw [if_neg (by simp [he]), if_neg hi]]
     have h2 := unseal_ B.kn v.k q.s hb (hk he hi')
     refine fn_intro Tryz.func32 (by kernel_rfl) ?_
     repeat' ((conv => whnf); first
      | refine call_go h1 (.one takeE) (fun o1 a1 a2 => ?_) | refine call_gr h2 (.blk takeC .nil) ?_ | refine ld1_lit ?_ | (refine ifs (fun h => ?_) (fun h => ?_) <;> try (exfalso; first | omega | with_reducible first | contradiction | exact h rfl)))
     all_goals (conv => whnf)
     all_goals exact fin_g (A := sysM _ _ o1 _ _ ++ [⟨B.vn, _⟩, ⟨B.kn, _⟩]) (.grp takeE (.blk takeC (.blk takeC .nil))) ⟨o1, a1, a2, rfl, rfl⟩
 · rw [show readS v.k q = ByteArray.empty by unfold readS; rw [if_pos he]]
   generalize q.e = e at he h1
   refine fn_intro Tryz.func32 (by kernel_rfl) ?_
   repeat' ((conv => whnf); first
    | refine call_go h1 (.one takeE) (fun o1 a1 a2 => ?_) | refine ld1_lit ?_ | (refine ifs (fun h => ?_) (fun h => ?_) <;> try (exfalso; first | omega | with_reducible first | contradiction | exact h rfl)))
   all_goals (conv => whnf)
   all_goals exact fin_g (A := sysM _ _ o1 _ _ ++ [⟨B.vn, _⟩, ⟨B.kn, _⟩]) (.grp takeE (.blk takeC (.blk takeC .nil))) ⟨o1, a1, a2, rfl, rfl⟩
end Aut
namespace Aut
open Go Ev Sha Aes Orc Node Rec Chn Jrn Cau Sto Ivs Ctr
open Rig (Fnc_takeR RigP Rg rgM z64 app_of RigA)
open Tree (TreP TreA Tre treM)
theorem sys_open (a : RigA) (r : RigP) (o : Orc) (A : StoA) (V : StoV) : sysM a r o A V = rgM ⟨a, r⟩ ++ (orcM o ++ (stB A.sn (Sto.c ⟨A, V⟩) :: stoR ⟨A, V⟩)) := rfl
theorem stoR_num (A : StoA) (V : StoV) (x : RwP) : stoR ⟨A, numV V x⟩ = stoR ⟨A, V⟩ := by unfold numV; split <;> rfl
theorem sok_num {A : StoA} {V : StoV} {rn on : Nat} (h : SOk ⟨A, V⟩ rn on) (x : RwP) : SOk ⟨A, numV V x⟩ rn on := by
 unfold numV; split
 · exact h
 · exact ⟨h.rn, h.on, h.r0, h.o0, h.r1, h.o1⟩
theorem can_num {a : RigA} {o : Orc} {A : StoA} {V : StoV} (h : Can a o A V) (x : RwP) : Can a o A (numV V x) :=
 ⟨sok_num h.ok x, by unfold numV; split <;> exact h.att, by unfold numV; split <;> exact h.fl, h.len⟩
theorem sealB_ok {r : RigP} {V : StoV} {v : VP} (h : VOk r V v.x) (hn : v.x.next < v.x.many) {s : ByteArray} (hs : s.size = 48) : kdOk (sealB v s) := (layB_ok (num_ok h hn) (.inl rfl) (cry_size _ _ _ hs)).1
attribute [local irreducible] srF RgV.lay Sto.c rowK z64 getO putO bodyS kdE kdN kdK stoR sealB numR numV
theorem write_ (a : RigA) (r : RigP) (o : Orc) (A : StoA) (V : StoV) (B : VA) (v : VP) (d l : Int) (s : ByteArray) (h : Can a o A V) (hv : VOk r V v.x) (hn : v.x.next < v.x.many) (hk : ∀ i, by8 (v.k i)) (hs : s.size = 48) (hc : 0 ≤ v.n ∧ v.n < 1099511627776)
 (q : OutR) (eq : q = putO (numR r V v.x) o.ts (numV V v.x) d l (sealB v s)) :
 Fnc Tryz.prog 70 [pt B.vn, .int .i64 d, .int .i64 l, .string s] (sysM a r o A V ++ vM B A.sn v)
  (RetO o q.ts (fun o' => sysM a q.r o' A (q.V.fl q.e) ++ vM B A.sn (sealX v)) (.int .i64 q.e)) := by
 have h1 := seal_go a r A V B v s h.ok.rn hv hn hk hs hc
 have h2 := setv a (numR r V v.x) o A (numV V v.x) B (sealX v) d l (sealB v s) (can_num h v.x) (sealB_ok hv hn hs)
 rw [← eq] at h2
 clear eq
 rw [sys_open, stoR_num] at h2
 simp only [List.append_assoc, List.cons_append, List.nil_append] at h2
 rw [sys_open]
 unfold vM at h1 ⊢
 refine fn_intro Tryz.func70 (by kernel_rfl) ?_
 repeat' ((conv => whnf); first
  | refine call_gr h1 (.grp takeG (.blk takeC (.blk takeC (.blk takeC (.blk takeC .nil))))) ?_ | refine call_go h2 (.grp takeG (.grp takeG (.blk takeC (.grp takeE (.blk takeC .nil))))) (fun o1 a1 a2 => ?_) | (refine ifs (fun h => ?_) (fun h => ?_) <;> try (exfalso; first | omega | with_reducible first | contradiction | exact h rfl)))
 all_goals (conv => whnf)
 all_goals exact fin_g (A := sysM _ _ o1 _ _ ++ [⟨B.vn, _⟩, ⟨B.kn, _⟩, ⟨B.wn, _⟩]) (.grp takeE (.blk takeC (.blk takeC (.blk takeC .nil)))) ⟨o1, a1, a2, rfl, rfl⟩
abbrev cV (c vn : Nat) : Blk := ⟨c, .cells [pt vn] 50⟩
theorem copy1_t (a : RigA) (r : RigP) (o : Orc) (A : StoA) (V : StoV) (B : VA) (v : VP) (e t : Int) (b : ByteArray) (c5 c8 c9 c11 c12 : Nat) (h : Can a o A V) (q : OutR) (eq : q = putO r o.ts V e t b) :
 Fnc Tryz.prog 135 [pt c12, pt c5, pt c8, pt c9, pt c11] (sysM a r o A V ++ [vB B A.sn v, cV c5 B.vn, cIn c8 e, cIn c9 t, cSr c11 b, cBo c12 true])
  (RetO o q.ts (fun o' => sysM a q.r o' A (q.V.fl q.e) ++ [vB B A.sn v, cV c5 B.vn, cIn c8 e, cIn c9 t, cSr c11 b, cBo c12 true]) (.int .i64 q.e)) := by
 have h1 := put_ a r o A V e t b h.ok h.att h.fl h.len
 rw [← eq] at h1
 clear eq
 refine fn_intro Tryz.func135 (by kernel_rfl) ?_
 repeat' ((conv => whnf); first
  | refine draw_any 2 [(0, true), (1, true), (2, true), (3, true), (4, true), (5, true), (6, true), (7, false), (8, true)] [⟨c5, _⟩, ⟨B.vn, _⟩, ⟨c8, _⟩, ⟨c9, _⟩, ⟨c11, _⟩] rfl (by kernel_rfl) (kept_of (.cons takeC (.cons takeC (.cons takeC (.cons takeC (.cons takeC .nil))))) ?_) | refine kept_of (.cons takeC (.cons takeC (.cons takeC (.cons takeC (.cons takeC .nil))))) ?_ | refine fld1 ?_ | refine call_go h1 (.one takeE) (fun o1 a1 a2 => ?_) | refine ld1_lit ?_)
 all_goals (conv => whnf)
 all_goals exact fin_g (A := sysM _ _ o1 _ _ ++ [⟨B.vn, _⟩, ⟨c5, _⟩, ⟨c8, _⟩, ⟨c9, _⟩, ⟨c11, _⟩, ⟨c12, _⟩]) (.grp takeE (.blk takeC (.blk takeC (.blk takeC (.blk takeC (.blk takeC (.blk takeC .nil))))))) ⟨o1, a1, a2, rfl, rfl⟩
theorem copy1_f (a : RigA) (r : RigP) (o : Orc) (A : StoA) (V : StoV) (B : VA) (v : VP) (e t : Int) (b : ByteArray) (c5 c8 c9 c11 c12 : Nat) (h : Can a o A V) (q : OutR) (eq : q = putO r o.ts V e t z64) :
 Fnc Tryz.prog 135 [pt c12, pt c5, pt c8, pt c9, pt c11] (sysM a r o A V ++ [vB B A.sn v, cV c5 B.vn, cIn c8 e, cIn c9 t, cSr c11 b, cBo c12 false])
  (RetO o q.ts (fun o' => sysM a q.r o' A (q.V.fl q.e) ++ [vB B A.sn v, cV c5 B.vn, cIn c8 e, cIn c9 t, cSr c11 b, cBo c12 false]) (.int .i64 q.e)) := by
 have h1 := clear_ a r o A V e t h.ok h.att h.fl h.len
 rw [← eq] at h1
 clear eq
 refine fn_intro Tryz.func135 (by kernel_rfl) ?_
 repeat' ((conv => whnf); first
  | refine draw_any 3 [(0, true), (1, true), (2, true), (3, true), (4, true), (5, true), (6, false), (7, true)] [⟨c5, _⟩, ⟨B.vn, _⟩, ⟨c8, _⟩, ⟨c9, _⟩] rfl (by kernel_rfl) (kept_of (.cons takeC (.cons takeC (.cons takeC (.cons takeC .nil)))) ?_) | refine kept_of (.cons takeC (.cons takeC (.cons takeC (.cons takeC .nil)))) ?_ | refine fld1 ?_ | refine call_go h1 (.one takeE) (fun o1 a1 a2 => ?_) | refine ld1_lit ?_)
 all_goals (conv => whnf)
 all_goals exact fin_g (A := sysM _ _ o1 _ _ ++ [⟨B.vn, _⟩, ⟨c5, _⟩, ⟨c8, _⟩, ⟨c9, _⟩, ⟨c11, _⟩, ⟨c12, _⟩]) (.grp takeE (.blk takeC (.blk takeC (.blk takeC (.blk takeC (.blk takeC (.blk takeC .nil))))))) ⟨o1, a1, a2, rfl, rfl⟩
theorem copy_ok (a : RigA) (r : RigP) (o : Orc) (A : StoA) (V : StoV) (B : VA) (v : VP) (d l e t : Int) (h : Can a o A V) (p q : OutR) (ep : p = getO r o.ts V d l) (he : p.e = 0) (h2 : SOk ⟨A, p.V.fl 0⟩ a.rn o.on ∧ (p.V.fl 0).is.at_ = true ∧ (p.V.fl 0).failed = 0 ∧ p.ts.length ≤ 1099511610000)
 (eq : q = putO p.r p.ts (p.V.fl 0) e t (if p.is then p.s else z64)) :
 Fnc Tryz.prog 71 [pt B.vn, .int .i64 d, .int .i64 l, .int .i64 e, .int .i64 t] (sysM a r o A V ++ [vB B A.sn v])
  (RetO o q.ts (fun o' => sysM a q.r o' A (q.V.fl q.e) ++ [vB B A.sn v]) (.int .i64 q.e)) := by
 have h1 := get_ a r o A V d l h.ok h.att h.fl h.len
 rw [← ep, he] at h1
 clear ep
 obtain ⟨g1, g2, g3, g4⟩ := h2
 cases hi : p.is with
 | true =>
   rw [hi] at h1 eq
   rw [if_pos rfl] at eq
   have hc : ∀ (o1 : Orc) c5 c8 c9 c11 c12, o1.on = o.on → o1.ts = p.ts → Fnc Tryz.prog 135 [pt c12, pt c5, pt c8, pt c9, pt c11] (sysM a p.r o1 A (p.V.fl 0) ++ [vB B A.sn v, cV c5 B.vn, cIn c8 e, cIn c9 t, cSr c11 p.s, cBo c12 true])
    (RetO o1 q.ts (fun o' => sysM a q.r o' A (q.V.fl q.e) ++ [vB B A.sn v, cV c5 B.vn, cIn c8 e, cIn c9 t, cSr c11 p.s, cBo c12 true]) (.int .i64 q.e)) := fun o1 c5 c8 c9 c11 c12 e1 e2 =>
      copy1_t a p.r o1 A (p.V.fl 0) B v e t p.s c5 c8 c9 c11 c12 ⟨by rw [e1]; exact g1, g2, g3, by rw [e2]; exact g4⟩ q (by rw [e2]; exact eq)
   clear eq
   refine fn_intro Tryz.func71 (by kernel_rfl) ?_
   repeat' ((conv => whnf); first
    | refine call_go h1 (.one takeE) (fun o1 a1 a2 => ?_) | refine call_go (hc o1 _ _ _ _ _ a1 a2) (.grp takeE (.blk takeC (.blk takeC (.blk takeC (.blk takeC (.blk takeC (.blk takeC .nil))))))) (fun o2 b1 b2 => ?_) | refine ld1_lit ?_ | refine nw (fun n => ?_) | refine st_lit rfl ?_ | refine need (by first | rfl | omega) ?_ | (refine ifs (fun h => ?_) (fun h => ?_) <;> try (exfalso; first | omega | with_reducible first | contradiction | exact h rfl)))
   all_goals (conv => whnf)
   all_goals exact fin_g (A := sysM _ _ o2 _ _ ++ [⟨B.vn, _⟩]) (.grp takeE (.blk takeC .nil)) ⟨o2, by rw [b1, a1], b2, rfl, rfl⟩
 | false =>
   rw [hi] at h1 eq
   rw [if_neg (by decide)] at eq
   have hc : ∀ (o1 : Orc) c5 c8 c9 c11 c12, o1.on = o.on → o1.ts = p.ts → Fnc Tryz.prog 135 [pt c12, pt c5, pt c8, pt c9, pt c11] (sysM a p.r o1 A (p.V.fl 0) ++ [vB B A.sn v, cV c5 B.vn, cIn c8 e, cIn c9 t, cSr c11 p.s, cBo c12 false])
    (RetO o1 q.ts (fun o' => sysM a q.r o' A (q.V.fl q.e) ++ [vB B A.sn v, cV c5 B.vn, cIn c8 e, cIn c9 t, cSr c11 p.s, cBo c12 false]) (.int .i64 q.e)) := fun o1 c5 c8 c9 c11 c12 e1 e2 =>
      copy1_f a p.r o1 A (p.V.fl 0) B v e t p.s c5 c8 c9 c11 c12 ⟨by rw [e1]; exact g1, g2, g3, by rw [e2]; exact g4⟩ q (by rw [e2]; exact eq)
   clear eq
   refine fn_intro Tryz.func71 (by kernel_rfl) ?_
   repeat' ((conv => whnf); first
    | refine call_go h1 (.one takeE) (fun o1 a1 a2 => ?_) | refine call_go (hc o1 _ _ _ _ _ a1 a2) (.grp takeE (.blk takeC (.blk takeC (.blk takeC (.blk takeC (.blk takeC (.blk takeC .nil))))))) (fun o2 b1 b2 => ?_) | refine ld1_lit ?_ | refine nw (fun n => ?_) | refine st_lit rfl ?_ | refine need (by first | rfl | omega) ?_ | (refine ifs (fun h => ?_) (fun h => ?_) <;> try (exfalso; first | omega | with_reducible first | contradiction | exact h rfl)))
   all_goals (conv => whnf)
   all_goals exact fin_g (A := sysM _ _ o2 _ _ ++ [⟨B.vn, _⟩]) (.grp takeE (.blk takeC .nil)) ⟨o2, by rw [b1, a1], b2, rfl, rfl⟩
end Aut
end Go.Proofs.YtkjamonkohpcnaaGreat
