/-
  slices.Sort and slices.Compact at this program, laid off the shelf in plain words.
-/
import Derived.Ground.SlgnProg
import Derived.Shelf.SlicesG.CompactI
import Derived.Ground.SlgmProg
import Derived.Shelf.SortM.Plain
import Derived.Test.YmwhapProg
namespace Go.Proofs
open Go.Shelf
def Yapv.laysSlN43_f35_ren : Go.Shelf.Ren := ⟨fun | 43 => 35 | n => n, fun | 22 => 62 | 23 => 2 | 3 => 3 | 4 => 4 | 0 => 0 | n => n, fun | n => n⟩
theorem Yapv.laysSlN43_f35 : Go.Proofs.SlLaysN.n43 Yapv.prog Yapv.laysSlN43_f35_ren := {
  mixed := by kernel_rfl
  f43 := ⟨Yapv.f35.name, by decide, Yapv.func35.trans (congrArg some (by kernel_rfl))⟩
  t0 := Yapv.underlying0
  a0 := Yapv.isAgg0
  z0 := Yapv.sizeOf0
  v0 := Yapv.zeroValue0
  t3 := Yapv.underlying3
  a3 := Yapv.isAgg3
  z3 := Yapv.sizeOf3
  v3 := Yapv.zeroValue3
  t4 := Yapv.underlying4
  a4 := Yapv.isAgg4
  z4 := Yapv.sizeOf4
  v4 := Yapv.zeroValue4
  t22 := Yapv.underlying62
  a22 := Yapv.isAgg62
  z22 := Yapv.sizeOf62
  v22 := Yapv.zeroValue62
  t23 := Yapv.underlying2
  a23 := Yapv.isAgg2
  z23 := Yapv.sizeOf2
  v23 := Yapv.zeroValue2
  i23 := by kernel_rfl }
open Go.RowKit Go.Lib Go.Sort in
theorem Yapv.slices_Compact_int (blk off cap : Nat) (zs : List Int) (w : World) (hH : Holds (Value.int .i64) w blk off zs.toArray) (hsz : zs.length ≤ 9223372036854775807) (hcap : zs.length ≤ cap) :
    Calls Yapv.prog 35 #[.slice (some ⟨blk, off, none⟩) zs.length cap] w fun e w' => e = .returned (.slice (some ⟨blk, off, none⟩) (Lib.compact zs).length cap) ∧ ∃ q, w' = putRow (Value.int .i64) (Sort.ahead w q) blk off (Lib.compact zs ++ List.replicate (zs.length - (Lib.compact zs).length) 0).toArray := AnyG.slices_Compact_int Yapv.laysSlN43_f35 blk off cap zs w hH hsz hcap
open Go.RowKit Go.Lib Go.Sort in
theorem Yapv.slices_Compact_int_empty (a : Option Addr) (cap : Nat) (w : World) :
    Calls Yapv.prog 35 #[.slice a 0 cap] w fun e w' => e = .returned (.slice a 0 cap) ∧ w' = w := AnyG.slices_Compact_int_empty Yapv.laysSlN43_f35 a cap w
def Yapv.laysSlM5_f34_ren : Go.Shelf.Ren := ⟨fun | 5 => 34 | 8 => 37 | 7 => 36 | 19 => 47 | 20 => 48 | 10 => 38 | 11 => 39 | 12 => 40 | 13 => 41 | 14 => 42 | 15 => 43 | 16 => 44 | 17 => 45 | 18 => 46 | 30 => 49 | 31 => 50 | 32 => 51 | 33 => 52 | 34 => 53 | 35 => 54 | 40 => 55 | n => n, fun | 23 => 62 | 25 => 2 | 3 => 3 | 32 => 67 | 22 => 62 | 0 => 0 | 44 => 78 | 46 => 36 | 4 => 4 | 36 => 70 | 35 => 69 | 41 => 75 | 5 => 5 | 9 => 9 | 53 => 80 | 57 => 83 | 63 => 85 | 64 => 86 | n => n, fun | n => n⟩
theorem Yapv.laysSlM5_f34 : Go.Proofs.SlLaysM.n5 Yapv.prog Yapv.laysSlM5_f34_ren := {
  mixed := by kernel_rfl
  f5 := ⟨Yapv.f34.name, by decide, Yapv.func34.trans (congrArg some (by kernel_rfl))⟩
  f7 := ⟨Yapv.f36.name, by decide, Yapv.func36.trans (congrArg some (by kernel_rfl))⟩
  f8 := Yapv.func37.trans (congrArg some (by kernel_rfl))
  f10 := ⟨Yapv.f38.name, by decide, Yapv.func38.trans (congrArg some (by kernel_rfl))⟩
  f11 := ⟨Yapv.f39.name, by decide, Yapv.func39.trans (congrArg some (by kernel_rfl))⟩
  f12 := ⟨Yapv.f40.name, by decide, Yapv.func40.trans (congrArg some (by kernel_rfl))⟩
  f13 := ⟨Yapv.f41.name, by decide, Yapv.func41.trans (congrArg some (by kernel_rfl))⟩
  f14 := ⟨Yapv.f42.name, by decide, Yapv.func42.trans (congrArg some (by kernel_rfl))⟩
  f15 := ⟨Yapv.f43.name, by decide, Yapv.func43.trans (congrArg some (by kernel_rfl))⟩
  f16 := ⟨Yapv.f44.name, by decide, Yapv.func44.trans (congrArg some (by kernel_rfl))⟩
  f17 := ⟨Yapv.f45.name, by decide, Yapv.func45.trans (congrArg some (by kernel_rfl))⟩
  f18 := ⟨Yapv.f46.name, by decide, Yapv.func46.trans (congrArg some (by kernel_rfl))⟩
  f19 := Yapv.func47.trans (congrArg some (by kernel_rfl))
  f20 := Yapv.func48.trans (congrArg some (by kernel_rfl))
  f30 := ⟨Yapv.f49.name, by decide, Yapv.func49.trans (congrArg some (by kernel_rfl))⟩
  f31 := Yapv.func50.trans (congrArg some (by kernel_rfl))
  f32 := Yapv.func51.trans (congrArg some (by kernel_rfl))
  f33 := ⟨Yapv.f52.name, by decide, Yapv.func52.trans (congrArg some (by kernel_rfl))⟩
  f34 := ⟨Yapv.f53.name, by decide, Yapv.func53.trans (congrArg some (by kernel_rfl))⟩
  f35 := ⟨Yapv.f54.name, by decide, Yapv.func54.trans (congrArg some (by kernel_rfl))⟩
  f40 := ⟨Yapv.f55.name, by decide, Yapv.func55.trans (congrArg some (by kernel_rfl))⟩
  t0 := Yapv.underlying0
  a0 := Yapv.isAgg0
  z0 := Yapv.sizeOf0
  v0 := Yapv.zeroValue0
  t3 := Yapv.underlying3
  a3 := Yapv.isAgg3
  z3 := Yapv.sizeOf3
  v3 := Yapv.zeroValue3
  t4 := Yapv.underlying4
  a4 := Yapv.isAgg4
  z4 := Yapv.sizeOf4
  v4 := Yapv.zeroValue4
  t5 := Yapv.underlying5
  a5 := Yapv.isAgg5
  z5 := Yapv.sizeOf5
  v5 := Yapv.zeroValue5
  t9 := Yapv.underlying9
  a9 := Yapv.isAgg9
  z9 := Yapv.sizeOf9
  v9 := Yapv.zeroValue9
  t22 := Yapv.underlying62
  a22 := Yapv.isAgg62
  z22 := Yapv.sizeOf62
  v22 := Yapv.zeroValue62
  t23 := Yapv.underlying62
  a23 := Yapv.isAgg62
  z23 := Yapv.sizeOf62
  v23 := Yapv.zeroValue62
  t25 := Yapv.underlying2
  a25 := Yapv.isAgg2
  z25 := Yapv.sizeOf2
  v25 := Yapv.zeroValue2
  t32 := Yapv.underlying67
  a32 := Yapv.isAgg67
  z32 := Yapv.sizeOf67
  v32 := Yapv.zeroValue67
  t35 := Yapv.underlying69
  a35 := Yapv.isAgg69
  z35 := Yapv.sizeOf69
  v35 := Yapv.zeroValue69
  t36 := Yapv.underlying70
  a36 := Yapv.isAgg70
  z36 := Yapv.sizeOf70
  v36 := Yapv.zeroValue70
  t41 := Yapv.underlying75
  a41 := Yapv.isAgg75
  z41 := Yapv.sizeOf75
  v41 := Yapv.zeroValue75
  t44 := Yapv.underlying78
  a44 := Yapv.isAgg78
  z44 := Yapv.sizeOf78
  v44 := Yapv.zeroValue78
  t46 := Yapv.underlying36
  a46 := Yapv.isAgg36
  z46 := Yapv.sizeOf36
  v46 := Yapv.zeroValue36
  t53 := Yapv.underlying80
  a53 := Yapv.isAgg80
  z53 := Yapv.sizeOf80
  v53 := Yapv.zeroValue80
  t57 := Yapv.underlying83
  a57 := Yapv.isAgg83
  z57 := Yapv.sizeOf83
  v57 := Yapv.zeroValue83
  t63 := Yapv.underlying85
  a63 := Yapv.isAgg85
  z63 := Yapv.sizeOf85
  v63 := Yapv.zeroValue85
  t64 := Yapv.underlying86
  a64 := Yapv.isAgg86
  z64 := Yapv.sizeOf86
  v64 := Yapv.zeroValue86 }
open Go.Sort Go.RowKit in
theorem Yapv.slices_Sort_int (blk off cap : Nat) (zs : List Int) (w : World) (hH : Holds (Value.int .i64) w blk off zs.toArray) (hblk : blk < w.heap.size) (hsz : zs.length < 4611686018427387904) :
    Calls Yapv.prog 34 #[.slice (some ⟨blk, off, none⟩) zs.length cap] w fun e w' =>
      e = .returned (.tuple #[]) ∧ ∃ n os, w' = grow (putRow (Value.int .i64) (Sort.ahead w n) blk off (zs.mergeSort fun x y => decide (x ≤ y)).toArray) os := AnyM.slices_Sort_int Yapv.laysSlM5_f34 blk off cap zs w hH hblk hsz
end Go.Proofs
