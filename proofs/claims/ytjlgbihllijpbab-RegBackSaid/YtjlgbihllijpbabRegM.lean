/- Registers and their bytes: plain laws. -/
import Derived.Test.YtjlgbihllijpbabGeomM
import Derived.Test.YtjlgbihllijpbabEt
namespace Go.Proofs.Ytjlgbihllijpbab.Reg
open Go Ev Be Geom
set_option linter.unusedVariables false
set_option linter.unusedSimpArgs false
set_option maxRecDepth 100000

/-- A digest: its bytes. -/
abbrev Dg := Nat → UInt8
def dl (a : Dg) : List UInt8 := (List.range 32).map a
abbrev dV (a : Dg) : List Value := [.int .u8 ((a 0).toNat : Int), .int .u8 ((a 1).toNat : Int), .int .u8 ((a 2).toNat : Int), .int .u8 ((a 3).toNat : Int), .int .u8 ((a 4).toNat : Int), .int .u8 ((a 5).toNat : Int), .int .u8 ((a 6).toNat : Int), .int .u8 ((a 7).toNat : Int), .int .u8 ((a 8).toNat : Int), .int .u8 ((a 9).toNat : Int), .int .u8 ((a 10).toNat : Int), .int .u8 ((a 11).toNat : Int), .int .u8 ((a 12).toNat : Int), .int .u8 ((a 13).toNat : Int), .int .u8 ((a 14).toNat : Int), .int .u8 ((a 15).toNat : Int), .int .u8 ((a 16).toNat : Int), .int .u8 ((a 17).toNat : Int), .int .u8 ((a 18).toNat : Int), .int .u8 ((a 19).toNat : Int), .int .u8 ((a 20).toNat : Int), .int .u8 ((a 21).toNat : Int), .int .u8 ((a 22).toNat : Int), .int .u8 ((a 23).toNat : Int), .int .u8 ((a 24).toNat : Int), .int .u8 ((a 25).toNat : Int), .int .u8 ((a 26).toNat : Int), .int .u8 ((a 27).toNat : Int), .int .u8 ((a 28).toNat : Int), .int .u8 ((a 29).toNat : Int), .int .u8 ((a 30).toNat : Int), .int .u8 ((a 31).toNat : Int)]
abbrev zV : List Value := [.int .u8 0, .int .u8 0, .int .u8 0, .int .u8 0, .int .u8 0, .int .u8 0, .int .u8 0, .int .u8 0, .int .u8 0, .int .u8 0, .int .u8 0, .int .u8 0, .int .u8 0, .int .u8 0, .int .u8 0, .int .u8 0, .int .u8 0, .int .u8 0, .int .u8 0, .int .u8 0, .int .u8 0, .int .u8 0, .int .u8 0, .int .u8 0, .int .u8 0, .int .u8 0, .int .u8 0, .int .u8 0, .int .u8 0, .int .u8 0, .int .u8 0, .int .u8 0]
theorem dV_u8 (a : Dg) : dV a = u8s (dl a) := rfl
/-- A register's cells. -/
abbrev regL (a b : Dg) (e iv a0 a1 u0 u1 d m : Int) (t : Bool) : List Value := [.int .u8 ((a 0).toNat : Int), .int .u8 ((a 1).toNat : Int), .int .u8 ((a 2).toNat : Int), .int .u8 ((a 3).toNat : Int), .int .u8 ((a 4).toNat : Int), .int .u8 ((a 5).toNat : Int), .int .u8 ((a 6).toNat : Int), .int .u8 ((a 7).toNat : Int), .int .u8 ((a 8).toNat : Int), .int .u8 ((a 9).toNat : Int), .int .u8 ((a 10).toNat : Int), .int .u8 ((a 11).toNat : Int), .int .u8 ((a 12).toNat : Int), .int .u8 ((a 13).toNat : Int), .int .u8 ((a 14).toNat : Int), .int .u8 ((a 15).toNat : Int), .int .u8 ((a 16).toNat : Int), .int .u8 ((a 17).toNat : Int), .int .u8 ((a 18).toNat : Int), .int .u8 ((a 19).toNat : Int), .int .u8 ((a 20).toNat : Int), .int .u8 ((a 21).toNat : Int), .int .u8 ((a 22).toNat : Int), .int .u8 ((a 23).toNat : Int), .int .u8 ((a 24).toNat : Int), .int .u8 ((a 25).toNat : Int), .int .u8 ((a 26).toNat : Int), .int .u8 ((a 27).toNat : Int), .int .u8 ((a 28).toNat : Int), .int .u8 ((a 29).toNat : Int), .int .u8 ((a 30).toNat : Int), .int .u8 ((a 31).toNat : Int), .int .u8 ((b 0).toNat : Int), .int .u8 ((b 1).toNat : Int), .int .u8 ((b 2).toNat : Int), .int .u8 ((b 3).toNat : Int), .int .u8 ((b 4).toNat : Int), .int .u8 ((b 5).toNat : Int), .int .u8 ((b 6).toNat : Int), .int .u8 ((b 7).toNat : Int), .int .u8 ((b 8).toNat : Int), .int .u8 ((b 9).toNat : Int), .int .u8 ((b 10).toNat : Int), .int .u8 ((b 11).toNat : Int), .int .u8 ((b 12).toNat : Int), .int .u8 ((b 13).toNat : Int), .int .u8 ((b 14).toNat : Int), .int .u8 ((b 15).toNat : Int), .int .u8 ((b 16).toNat : Int), .int .u8 ((b 17).toNat : Int), .int .u8 ((b 18).toNat : Int), .int .u8 ((b 19).toNat : Int), .int .u8 ((b 20).toNat : Int), .int .u8 ((b 21).toNat : Int), .int .u8 ((b 22).toNat : Int), .int .u8 ((b 23).toNat : Int), .int .u8 ((b 24).toNat : Int), .int .u8 ((b 25).toNat : Int), .int .u8 ((b 26).toNat : Int), .int .u8 ((b 27).toNat : Int), .int .u8 ((b 28).toNat : Int), .int .u8 ((b 29).toNat : Int), .int .u8 ((b 30).toNat : Int), .int .u8 ((b 31).toNat : Int), .int .i64 e, .int .i64 iv, .int .i64 a0, .int .i64 a1, .int .i64 u0, .int .i64 u1, .int .i64 d, .int .i64 m, .bool t]
abbrev regZ : List Value := [.int .u8 0, .int .u8 0, .int .u8 0, .int .u8 0, .int .u8 0, .int .u8 0, .int .u8 0, .int .u8 0, .int .u8 0, .int .u8 0, .int .u8 0, .int .u8 0, .int .u8 0, .int .u8 0, .int .u8 0, .int .u8 0, .int .u8 0, .int .u8 0, .int .u8 0, .int .u8 0, .int .u8 0, .int .u8 0, .int .u8 0, .int .u8 0, .int .u8 0, .int .u8 0, .int .u8 0, .int .u8 0, .int .u8 0, .int .u8 0, .int .u8 0, .int .u8 0, .int .u8 0, .int .u8 0, .int .u8 0, .int .u8 0, .int .u8 0, .int .u8 0, .int .u8 0, .int .u8 0, .int .u8 0, .int .u8 0, .int .u8 0, .int .u8 0, .int .u8 0, .int .u8 0, .int .u8 0, .int .u8 0, .int .u8 0, .int .u8 0, .int .u8 0, .int .u8 0, .int .u8 0, .int .u8 0, .int .u8 0, .int .u8 0, .int .u8 0, .int .u8 0, .int .u8 0, .int .u8 0, .int .u8 0, .int .u8 0, .int .u8 0, .int .u8 0, .int .i64 0, .int .i64 0, .int .i64 0, .int .i64 0, .int .i64 0, .int .i64 0, .int .i64 0, .int .i64 0, .bool false]
theorem regZ_eq : regZ = regL (fun _ => 0) (fun _ => 0) 0 0 0 0 0 0 0 0 false := rfl
/-- May it be? -/
structure RR (b : Dg) (e iv a0 a1 u0 u1 d m : Int) (t : Bool) : Prop where
  e0 : 0 ≤ e
  e1 : e ≤ 4294967295
  i0 : 0 ≤ iv
  i1 : iv ≤ 1099511627776
  d0 : 0 ≤ d
  d1 : d ≤ 8
  m0 : 0 ≤ m
  m1 : m ≤ 2
  a00 : 0 ≤ a0
  a01 : a0 ≤ 1
  a10 : 0 ≤ a1
  a11 : a1 ≤ 1
  u00 : 0 ≤ u0
  u01 : u0 ≤ 80
  u10 : 0 ≤ u1
  u11 : u1 ≤ 80
  at1 : t = false → d = 0
  at2 : t = false → a1 = 0
  at3 : t = false → u1 = 0
  at4 : t = false → dV b = zV
  md : m = 0 ∨ d = 0
def by1 (x : Int) : UInt8 := UInt8.ofNat x.toNat
def layL (a b : Dg) (e iv a0 a1 u0 u1 d m : Int) (t : Bool) : List UInt8 :=
  dl a ++ dl b ++ bb 4 e.toNat ++ bb 8 iv.toNat ++ [by1 a0, by1 u0, by1 a1, by1 u1, by1 d, by1 m, (if t then 1 else 0), 103] ++ List.replicate 12 0
theorem layL_length (a b : Dg) (e iv a0 a1 u0 u1 d m : Int) (t : Bool) : (layL a b e iv a0 a1 u0 u1 d m t).length = 96 := rfl
/-- 96 bytes. -/
abbrev L96 (c : Dg) : List UInt8 := [c 0, c 1, c 2, c 3, c 4, c 5, c 6, c 7, c 8, c 9, c 10, c 11, c 12, c 13, c 14, c 15, c 16, c 17, c 18, c 19, c 20, c 21, c 22, c 23, c 24, c 25, c 26, c 27, c 28, c 29, c 30, c 31, c 32, c 33, c 34, c 35, c 36, c 37, c 38, c 39, c 40, c 41, c 42, c 43, c 44, c 45, c 46, c 47, c 48, c 49, c 50, c 51, c 52, c 53, c 54, c 55, c 56, c 57, c 58, c 59, c 60, c 61, c 62, c 63, c 64, c 65, c 66, c 67, c 68, c 69, c 70, c 71, c 72, c 73, c 74, c 75, c 76, c 77, c 78, c 79, c 80, c 81, c 82, c 83, c 84, c 85, c 86, c 87, c 88, c 89, c 90, c 91, c 92, c 93, c 94, c 95]
theorem str_96 {s : ByteArray} (h : s.size = 96) : ∃ c : Dg, s = str (L96 c) := by
  refine ⟨fun i => s.data.toList.getD i 0, ?_⟩
  have hl : s.data.toList.length = 96 := h
  rw [← str_eta s]
  congr 1
  have e : L96 (fun i => s.data.toList.getD i 0) = (List.range 96).map (fun i => s.data.toList.getD i 0) := rfl
  rw [str_data, e]
  apply List.ext_getElem?
  intro i
  rw [List.getElem?_map]
  by_cases hi : i < 96
  · have hi' : i < s.data.toList.length := by omega
    rw [List.getElem?_range hi, List.getElem?_eq_getElem hi', Option.map_some, List.getD_eq_getElem?_getD, List.getElem?_eq_getElem hi']
    rfl
  · rw [List.getElem?_eq_none (by omega), List.getElem?_eq_none (by simp; omega)]; rfl
end Go.Proofs.Ytjlgbihllijpbab.Reg
