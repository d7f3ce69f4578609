/-
  The library's sort of strings at this program: that its functions lie there, and what it does. Conditions: as each says.
-/
import Derived.Test.YtpoaacnnhgebfaaGreatProg
import Derived.Test.YtpoaacnnhgebfaaGreatChecked
import Derived.Shelf.Sort.AssemblysIn
import Derived.Sort.EveryDepth
set_option maxRecDepth 100000
namespace Go.Proofs.YtpoaacnnhgebfaaGreat
open Go.Proofs Go.Shelf Go.Sort
def laysSort_ren : Go.Shelf.Ren := ⟨fun | 190 => 180 | 125 => 207 | 258 => 206 | 128 => 220 | 129 => 221 | 302 => 211 | 303 => 212 | 304 => 213 | 305 => 214 | 306 => 215 | 307 => 216 | 308 => 217 | 309 => 218 | 310 => 219 | 333 => 223 | 329 => 224 | 330 => 225 | 334 => 226 | 335 => 227 | 336 => 228 | 344 => 229 | n => n, fun | 31 => 131 | 9 => 9 | 3 => 3 | 46 => 313 | 0 => 0 | 51 => 327 | 53 => 329 | 4 => 4 | 183 => 320 | 182 => 319 | 131 => 240 | 5 => 5 | 218 => 331 | 222 => 335 | 228 => 337 | 229 => 67 | n => n, fun | n => n⟩
theorem laysSort : Go.Proofs.Lays.n190 Tryz.prog laysSort_ren := { 
  mixed := by kernel_rfl,
  f125 := Tryz.func207.trans (congrArg some (by kernel_rfl)),
  f128 := Tryz.func220.trans (congrArg some (by kernel_rfl)),
  f129 := Tryz.func221.trans (congrArg some (by kernel_rfl)),
  f190 := Tryz.func180.trans (congrArg some (by kernel_rfl)),
  f258 := Tryz.func206.trans (congrArg some (by kernel_rfl)),
  f302 := Tryz.func211.trans (congrArg some (by kernel_rfl)),
  f303 := Tryz.func212.trans (congrArg some (by kernel_rfl)),
  f304 := Tryz.func213.trans (congrArg some (by kernel_rfl)),
  f305 := Tryz.func214.trans (congrArg some (by kernel_rfl)),
  f306 := Tryz.func215.trans (congrArg some (by kernel_rfl)),
  f307 := Tryz.func216.trans (congrArg some (by kernel_rfl)),
  f308 := Tryz.func217.trans (congrArg some (by kernel_rfl)),
  f309 := Tryz.func218.trans (congrArg some (by kernel_rfl)),
  f310 := Tryz.func219.trans (congrArg some (by kernel_rfl)),
  f329 := Tryz.func224.trans (congrArg some (by kernel_rfl)),
  f330 := Tryz.func225.trans (congrArg some (by kernel_rfl)),
  f333 := Tryz.func223.trans (congrArg some (by kernel_rfl)),
  f334 := Tryz.func226.trans (congrArg some (by kernel_rfl)),
  f335 := Tryz.func227.trans (congrArg some (by kernel_rfl)),
  f336 := Tryz.func228.trans (congrArg some (by kernel_rfl)),
  f344 := Tryz.func229.trans (congrArg some (by kernel_rfl)),
  t0 := Tryz.underlying0,
  a0 := Tryz.isAgg0,
  z0 := Tryz.sizeOf0,
  v0 := Tryz.zeroValue0,
  t3 := Tryz.underlying3,
  a3 := Tryz.isAgg3,
  z3 := Tryz.sizeOf3,
  v3 := Tryz.zeroValue3,
  t4 := Tryz.underlying4,
  a4 := Tryz.isAgg4,
  z4 := Tryz.sizeOf4,
  v4 := Tryz.zeroValue4,
  t5 := Tryz.underlying5,
  a5 := Tryz.isAgg5,
  z5 := Tryz.sizeOf5,
  v5 := Tryz.zeroValue5,
  t9 := Tryz.underlying9,
  a9 := Tryz.isAgg9,
  z9 := Tryz.sizeOf9,
  v9 := Tryz.zeroValue9,
  t31 := Tryz.underlying131,
  a31 := Tryz.isAgg131,
  z31 := Tryz.sizeOf131,
  v31 := Tryz.zeroValue131,
  t46 := Tryz.underlying313,
  a46 := Tryz.isAgg313,
  z46 := Tryz.sizeOf313,
  v46 := Tryz.zeroValue313,
  t51 := Tryz.underlying327,
  a51 := Tryz.isAgg327,
  z51 := Tryz.sizeOf327,
  v51 := Tryz.zeroValue327,
  t53 := Tryz.underlying329,
  a53 := Tryz.isAgg329,
  z53 := Tryz.sizeOf329,
  v53 := Tryz.zeroValue329,
  t131 := Tryz.underlying240,
  a131 := Tryz.isAgg240,
  z131 := Tryz.sizeOf240,
  v131 := Tryz.zeroValue240,
  t182 := Tryz.underlying319,
  a182 := Tryz.isAgg319,
  z182 := Tryz.sizeOf319,
  v182 := Tryz.zeroValue319,
  t183 := Tryz.underlying320,
  a183 := Tryz.isAgg320,
  z183 := Tryz.sizeOf320,
  v183 := Tryz.zeroValue320,
  t218 := Tryz.underlying331,
  a218 := Tryz.isAgg331,
  z218 := Tryz.sizeOf331,
  v218 := Tryz.zeroValue331,
  t222 := Tryz.underlying335,
  a222 := Tryz.isAgg335,
  z222 := Tryz.sizeOf335,
  v222 := Tryz.zeroValue335,
  t228 := Tryz.underlying337,
  a228 := Tryz.isAgg337,
  z228 := Tryz.sizeOf337,
  v228 := Tryz.zeroValue337,
  t229 := Tryz.underlying67,
  a229 := Tryz.isAgg67,
  z229 := Tryz.sizeOf67,
  v229 := Tryz.zeroValue67 }

/-- slices.Sort of strings. -/
theorem sortStr (blk off cap : Nat) (ss : List (List UInt8)) (w : World) (hH : Holds encStr w blk off ss.toArray) (hblk : blk < w.heap.size) (hsz : ss.length < 4611686018427387904) :
    Calls Tryz.prog (laysSort_ren.f 190) #[.slice (some ⟨blk, off, none⟩) ss.length cap] w fun e w' =>
      e = .returned (.tuple #[]) ∧ ∃ n os, w' = grow (putRow encStr (Sort.ahead w n) blk off (ss.mergeSort fun x y => decide (x ≤ y)).toArray) os :=
  calls_of_every_depth fun D => AnyS.slices_Sort_string_in laysSort D blk off cap ss w hH hblk hsz

/-- bits.Len. -/
theorem lenBits (n : Nat) (w : World) (hn : n < 4611686018427387904) : Calls Tryz.prog (laysSort_ren.f 125) #[.int .u64 (n : Int)] w fun e w' => e = .returned (.int .i64 (bitsLen n : Nat)) ∧ w' = w :=
  calls_of_every_depth fun D => Any.lenWalkInSAll { laysSort with } D n w hn
end Go.Proofs.YtpoaacnnhgebfaaGreat
