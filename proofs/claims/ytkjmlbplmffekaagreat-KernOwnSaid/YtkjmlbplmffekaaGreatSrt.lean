/-
  The library's sort of strings at this program: that its functions lie there, and what it does. Conditions: as each says.
-/
import Derived.Test.YtkjmlbplmffekaaGreatProg
import Derived.Test.YtkjmlbplmffekaaGreatChecked
import Derived.Shelf.Sort.AssemblysIn
import Derived.Sort.EveryDepth
set_option maxRecDepth 100000
namespace Go.Proofs.YtkjmlbplmffekaaGreat
open Go.Proofs Go.Shelf Go.Sort
def laysSort_ren : Go.Shelf.Ren := ⟨fun | 190 => 96 | 125 => 193 | 258 => 192 | 128 => 243 | 129 => 244 | 302 => 234 | 303 => 235 | 304 => 236 | 305 => 237 | 306 => 238 | 307 => 239 | 308 => 240 | 309 => 241 | 310 => 242 | 333 => 250 | 329 => 251 | 330 => 252 | 334 => 253 | 335 => 254 | 336 => 255 | 344 => 256 | n => n, fun | 31 => 186 | 9 => 9 | 3 => 3 | 46 => 305 | 0 => 0 | 51 => 352 | 53 => 354 | 4 => 4 | 183 => 345 | 182 => 344 | 131 => 288 | 5 => 5 | 218 => 357 | 222 => 361 | 228 => 364 | 229 => 113 | n => n, fun | n => n⟩
theorem laysSort : Go.Proofs.Lays.n190 Tryz.prog laysSort_ren := { 
  mixed := by kernel_rfl,
  f125 := Tryz.func193.trans (congrArg some (by kernel_rfl)),
  f128 := Tryz.func243.trans (congrArg some (by kernel_rfl)),
  f129 := Tryz.func244.trans (congrArg some (by kernel_rfl)),
  f190 := Tryz.func96.trans (congrArg some (by kernel_rfl)),
  f258 := Tryz.func192.trans (congrArg some (by kernel_rfl)),
  f302 := Tryz.func234.trans (congrArg some (by kernel_rfl)),
  f303 := Tryz.func235.trans (congrArg some (by kernel_rfl)),
  f304 := Tryz.func236.trans (congrArg some (by kernel_rfl)),
  f305 := Tryz.func237.trans (congrArg some (by kernel_rfl)),
  f306 := Tryz.func238.trans (congrArg some (by kernel_rfl)),
  f307 := Tryz.func239.trans (congrArg some (by kernel_rfl)),
  f308 := Tryz.func240.trans (congrArg some (by kernel_rfl)),
  f309 := Tryz.func241.trans (congrArg some (by kernel_rfl)),
  f310 := Tryz.func242.trans (congrArg some (by kernel_rfl)),
  f329 := Tryz.func251.trans (congrArg some (by kernel_rfl)),
  f330 := Tryz.func252.trans (congrArg some (by kernel_rfl)),
  f333 := Tryz.func250.trans (congrArg some (by kernel_rfl)),
  f334 := Tryz.func253.trans (congrArg some (by kernel_rfl)),
  f335 := Tryz.func254.trans (congrArg some (by kernel_rfl)),
  f336 := Tryz.func255.trans (congrArg some (by kernel_rfl)),
  f344 := Tryz.func256.trans (congrArg some (by kernel_rfl)),
  t0 := Tryz.underlying0,
  a0 := Tryz.isAgg0,
  z0 := Tryz.sizeOf0,
  v0 := Tryz.zeroValue0,
  t3 := Tryz.underlying3,
  a3 := Tryz.isAgg3,
  z3 := Tryz.sizeOf3,
  v3 := Tryz.zeroValue3,
  t4 := Tryz.underlying4,
  a4 := Tryz.isAgg4,
  z4 := Tryz.sizeOf4,
  v4 := Tryz.zeroValue4,
  t5 := Tryz.underlying5,
  a5 := Tryz.isAgg5,
  z5 := Tryz.sizeOf5,
  v5 := Tryz.zeroValue5,
  t9 := Tryz.underlying9,
  a9 := Tryz.isAgg9,
  z9 := Tryz.sizeOf9,
  v9 := Tryz.zeroValue9,
  t31 := Tryz.underlying186,
  a31 := Tryz.isAgg186,
  z31 := Tryz.sizeOf186,
  v31 := Tryz.zeroValue186,
  t46 := Tryz.underlying305,
  a46 := Tryz.isAgg305,
  z46 := Tryz.sizeOf305,
  v46 := Tryz.zeroValue305,
  t51 := Tryz.underlying352,
  a51 := Tryz.isAgg352,
  z51 := Tryz.sizeOf352,
  v51 := Tryz.zeroValue352,
  t53 := Tryz.underlying354,
  a53 := Tryz.isAgg354,
  z53 := Tryz.sizeOf354,
  v53 := Tryz.zeroValue354,
  t131 := Tryz.underlying288,
  a131 := Tryz.isAgg288,
  z131 := Tryz.sizeOf288,
  v131 := Tryz.zeroValue288,
  t182 := Tryz.underlying344,
  a182 := Tryz.isAgg344,
  z182 := Tryz.sizeOf344,
  v182 := Tryz.zeroValue344,
  t183 := Tryz.underlying345,
  a183 := Tryz.isAgg345,
  z183 := Tryz.sizeOf345,
  v183 := Tryz.zeroValue345,
  t218 := Tryz.underlying357,
  a218 := Tryz.isAgg357,
  z218 := Tryz.sizeOf357,
  v218 := Tryz.zeroValue357,
  t222 := Tryz.underlying361,
  a222 := Tryz.isAgg361,
  z222 := Tryz.sizeOf361,
  v222 := Tryz.zeroValue361,
  t228 := Tryz.underlying364,
  a228 := Tryz.isAgg364,
  z228 := Tryz.sizeOf364,
  v228 := Tryz.zeroValue364,
  t229 := Tryz.underlying113,
  a229 := Tryz.isAgg113,
  z229 := Tryz.sizeOf113,
  v229 := Tryz.zeroValue113 }

/-- slices.Sort of strings. -/
theorem sortStr (blk off cap : Nat) (ss : List (List UInt8)) (w : World) (hH : Holds encStr w blk off ss.toArray) (hblk : blk < w.heap.size) (hsz : ss.length < 4611686018427387904) :
    Calls Tryz.prog (laysSort_ren.f 190) #[.slice (some ⟨blk, off, none⟩) ss.length cap] w fun e w' =>
      e = .returned (.tuple #[]) ∧ ∃ n os, w' = grow (putRow encStr (Sort.ahead w n) blk off (ss.mergeSort fun x y => decide (x ≤ y)).toArray) os :=
  calls_of_every_depth fun D => AnyS.slices_Sort_string_in laysSort D blk off cap ss w hH hblk hsz

/-- bits.Len. -/
theorem lenBits (n : Nat) (w : World) (hn : n < 4611686018427387904) : Calls Tryz.prog (laysSort_ren.f 125) #[.int .u64 (n : Int)] w fun e w' => e = .returned (.int .i64 (bitsLen n : Nat)) ∧ w' = w :=
  calls_of_every_depth fun D => Any.lenWalkInSAll { laysSort with } D n w hn
end Go.Proofs.YtkjmlbplmffekaaGreat
