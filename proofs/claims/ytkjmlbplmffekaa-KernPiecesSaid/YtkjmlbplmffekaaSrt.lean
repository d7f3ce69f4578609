/-
  The library's sort of strings at this program: that its functions lie there, and what it does. Conditions: as each says.
-/
import Derived.Test.YtkjmlbplmffekaaProg
import Derived.Test.YtkjmlbplmffekaaChecked
import Derived.Shelf.Sort.AssemblysIn
import Derived.Sort.EveryDepth
set_option maxRecDepth 100000
namespace Go.Proofs.Ytkjmlbplmffekaa
open Go.Proofs Go.Shelf Go.Sort
def laysSort_ren : Go.Shelf.Ren := ⟨fun | 190 => 46 | 125 => 64 | 258 => 63 | 128 => 78 | 129 => 79 | 302 => 69 | 303 => 70 | 304 => 71 | 305 => 72 | 306 => 73 | 307 => 74 | 308 => 75 | 309 => 76 | 310 => 77 | 333 => 81 | 329 => 82 | 330 => 83 | 334 => 84 | 335 => 85 | 336 => 86 | 344 => 87 | n => n, fun | 31 => 116 | 9 => 9 | 3 => 3 | 46 => 153 | 0 => 0 | 51 => 168 | 53 => 170 | 4 => 4 | 183 => 160 | 182 => 159 | 131 => 165 | 5 => 5 | 218 => 172 | 222 => 176 | 228 => 178 | 229 => 179 | n => n, fun | n => n⟩
theorem laysSort : Go.Proofs.Lays.n190 Try.prog laysSort_ren := { 
  mixed := by kernel_rfl,
  f125 := Try.func64.trans (congrArg some (by kernel_rfl)),
  f128 := Try.func78.trans (congrArg some (by kernel_rfl)),
  f129 := Try.func79.trans (congrArg some (by kernel_rfl)),
  f190 := Try.func46.trans (congrArg some (by kernel_rfl)),
  f258 := Try.func63.trans (congrArg some (by kernel_rfl)),
  f302 := Try.func69.trans (congrArg some (by kernel_rfl)),
  f303 := Try.func70.trans (congrArg some (by kernel_rfl)),
  f304 := Try.func71.trans (congrArg some (by kernel_rfl)),
  f305 := Try.func72.trans (congrArg some (by kernel_rfl)),
  f306 := Try.func73.trans (congrArg some (by kernel_rfl)),
  f307 := Try.func74.trans (congrArg some (by kernel_rfl)),
  f308 := Try.func75.trans (congrArg some (by kernel_rfl)),
  f309 := Try.func76.trans (congrArg some (by kernel_rfl)),
  f310 := Try.func77.trans (congrArg some (by kernel_rfl)),
  f329 := Try.func82.trans (congrArg some (by kernel_rfl)),
  f330 := Try.func83.trans (congrArg some (by kernel_rfl)),
  f333 := Try.func81.trans (congrArg some (by kernel_rfl)),
  f334 := Try.func84.trans (congrArg some (by kernel_rfl)),
  f335 := Try.func85.trans (congrArg some (by kernel_rfl)),
  f336 := Try.func86.trans (congrArg some (by kernel_rfl)),
  f344 := Try.func87.trans (congrArg some (by kernel_rfl)),
  t0 := Try.underlying0,
  a0 := Try.isAgg0,
  z0 := Try.sizeOf0,
  v0 := Try.zeroValue0,
  t3 := Try.underlying3,
  a3 := Try.isAgg3,
  z3 := Try.sizeOf3,
  v3 := Try.zeroValue3,
  t4 := Try.underlying4,
  a4 := Try.isAgg4,
  z4 := Try.sizeOf4,
  v4 := Try.zeroValue4,
  t5 := Try.underlying5,
  a5 := Try.isAgg5,
  z5 := Try.sizeOf5,
  v5 := Try.zeroValue5,
  t9 := Try.underlying9,
  a9 := Try.isAgg9,
  z9 := Try.sizeOf9,
  v9 := Try.zeroValue9,
  t31 := Try.underlying116,
  a31 := Try.isAgg116,
  z31 := Try.sizeOf116,
  v31 := Try.zeroValue116,
  t46 := Try.underlying153,
  a46 := Try.isAgg153,
  z46 := Try.sizeOf153,
  v46 := Try.zeroValue153,
  t51 := Try.underlying168,
  a51 := Try.isAgg168,
  z51 := Try.sizeOf168,
  v51 := Try.zeroValue168,
  t53 := Try.underlying170,
  a53 := Try.isAgg170,
  z53 := Try.sizeOf170,
  v53 := Try.zeroValue170,
  t131 := Try.underlying165,
  a131 := Try.isAgg165,
  z131 := Try.sizeOf165,
  v131 := Try.zeroValue165,
  t182 := Try.underlying159,
  a182 := Try.isAgg159,
  z182 := Try.sizeOf159,
  v182 := Try.zeroValue159,
  t183 := Try.underlying160,
  a183 := Try.isAgg160,
  z183 := Try.sizeOf160,
  v183 := Try.zeroValue160,
  t218 := Try.underlying172,
  a218 := Try.isAgg172,
  z218 := Try.sizeOf172,
  v218 := Try.zeroValue172,
  t222 := Try.underlying176,
  a222 := Try.isAgg176,
  z222 := Try.sizeOf176,
  v222 := Try.zeroValue176,
  t228 := Try.underlying178,
  a228 := Try.isAgg178,
  z228 := Try.sizeOf178,
  v228 := Try.zeroValue178,
  t229 := Try.underlying179,
  a229 := Try.isAgg179,
  z229 := Try.sizeOf179,
  v229 := Try.zeroValue179 }

/-- slices.Sort of strings. -/
theorem sortStr (blk off cap : Nat) (ss : List (List UInt8)) (w : World) (hH : Holds encStr w blk off ss.toArray) (hblk : blk < w.heap.size) (hsz : ss.length < 4611686018427387904) :
    Calls Try.prog (laysSort_ren.f 190) #[.slice (some ⟨blk, off, none⟩) ss.length cap] w fun e w' =>
      e = .returned (.tuple #[]) ∧ ∃ n os, w' = grow (putRow encStr (Sort.ahead w n) blk off (ss.mergeSort fun x y => decide (x ≤ y)).toArray) os :=
  calls_of_every_depth fun D => AnyS.slices_Sort_string_in laysSort D blk off cap ss w hH hblk hsz

/-- bits.Len. -/
theorem lenBits (n : Nat) (w : World) (hn : n < 4611686018427387904) : Calls Try.prog (laysSort_ren.f 125) #[.int .u64 (n : Int)] w fun e w' => e = .returned (.int .i64 (bitsLen n : Nat)) ∧ w' = w :=
  calls_of_every_depth fun D => Any.lenWalkInSAll { laysSort with } D n w hn
end Go.Proofs.Ytkjmlbplmffekaa
