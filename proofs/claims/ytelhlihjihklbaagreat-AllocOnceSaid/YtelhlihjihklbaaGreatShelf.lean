/-
  DERIVED: THE SHELF's CONTRACTS AT THIS DUMP, IN PLAIN WORDS (tools/lay-plain.mjs out of 'TryzShelf.lean', which tools/lay-shelf.mjs wrote): THE SAME DECLARATIONS UNDER THE SAME NAMES: 'import', 'namespace', 'open', 'def', 'theorem' AND NOTHING ELSE: no command of the shelf's: FOR A HAND-IN. Each laying: the table of numbers ('.._ren') and one theorem, a field a fact of the dump's own or the kernel's comparison; each contract: ONE APPLICATION.
-/
import Derived.Shelf.Sort.Plain
import Derived.Shelf.Slices.In.SortNone
import Derived.Test.YtelhlihjihklbaaGreatProg
namespace Go.Proofs
open Go.Shelf
def Tryz.lays189_ren : Go.Shelf.Ren := ⟨fun | 189 => 242 | 125 => 258 | 257 => 257 | 128 => 272 | 129 => 273 | 294 => 263 | 295 => 264 | 296 => 265 | 297 => 266 | 298 => 267 | 299 => 268 | 216 => 269 | 300 => 270 | 301 => 271 | 328 => 275 | 329 => 276 | 330 => 277 | 331 => 278 | 332 => 279 | 215 => 280 | 343 => 281 | n => n, fun | 28 => 80 | 3 => 3 | 46 => 150 | 0 => 0 | 51 => 283 | 53 => 270 | 4 => 4 | 183 => 331 | 182 => 330 | 131 => 335 | 5 => 5 | 9 => 9 | 218 => 339 | 222 => 343 | 228 => 345 | 229 => 27 | n => n, fun | n => n⟩
theorem Tryz.lays189 : Go.Proofs.Lays.n189 Tryz.prog Tryz.lays189_ren := {
  mixed := by kernel_rfl
  f125 := Tryz.func258.trans (congrArg some (by kernel_rfl))
  f128 := Tryz.func272.trans (congrArg some (by kernel_rfl))
  f129 := Tryz.func273.trans (congrArg some (by kernel_rfl))
  f189 := Tryz.func242.trans (congrArg some (by kernel_rfl))
  f215 := Tryz.func280.trans (congrArg some (by kernel_rfl))
  f216 := Tryz.func269.trans (congrArg some (by kernel_rfl))
  f257 := Tryz.func257.trans (congrArg some (by kernel_rfl))
  f294 := Tryz.func263.trans (congrArg some (by kernel_rfl))
  f295 := Tryz.func264.trans (congrArg some (by kernel_rfl))
  f296 := Tryz.func265.trans (congrArg some (by kernel_rfl))
  f297 := Tryz.func266.trans (congrArg some (by kernel_rfl))
  f298 := Tryz.func267.trans (congrArg some (by kernel_rfl))
  f299 := Tryz.func268.trans (congrArg some (by kernel_rfl))
  f300 := Tryz.func270.trans (congrArg some (by kernel_rfl))
  f301 := Tryz.func271.trans (congrArg some (by kernel_rfl))
  f328 := Tryz.func275.trans (congrArg some (by kernel_rfl))
  f329 := Tryz.func276.trans (congrArg some (by kernel_rfl))
  f330 := Tryz.func277.trans (congrArg some (by kernel_rfl))
  f331 := Tryz.func278.trans (congrArg some (by kernel_rfl))
  f332 := Tryz.func279.trans (congrArg some (by kernel_rfl))
  f343 := Tryz.func281.trans (congrArg some (by kernel_rfl))
  t0 := Tryz.underlying0
  a0 := Tryz.isAgg0
  z0 := Tryz.sizeOf0
  v0 := Tryz.zeroValue0
  t3 := Tryz.underlying3
  a3 := Tryz.isAgg3
  z3 := Tryz.sizeOf3
  v3 := Tryz.zeroValue3
  t4 := Tryz.underlying4
  a4 := Tryz.isAgg4
  z4 := Tryz.sizeOf4
  v4 := Tryz.zeroValue4
  t5 := Tryz.underlying5
  a5 := Tryz.isAgg5
  z5 := Tryz.sizeOf5
  v5 := Tryz.zeroValue5
  t9 := Tryz.underlying9
  a9 := Tryz.isAgg9
  z9 := Tryz.sizeOf9
  v9 := Tryz.zeroValue9
  t28 := Tryz.underlying80
  a28 := Tryz.isAgg80
  z28 := Tryz.sizeOf80
  v28 := Tryz.zeroValue80
  t46 := Tryz.underlying150
  a46 := Tryz.isAgg150
  z46 := Tryz.sizeOf150
  v46 := Tryz.zeroValue150
  t51 := Tryz.underlying283
  a51 := Tryz.isAgg283
  z51 := Tryz.sizeOf283
  v51 := Tryz.zeroValue283
  t53 := Tryz.underlying270
  a53 := Tryz.isAgg270
  z53 := Tryz.sizeOf270
  v53 := Tryz.zeroValue270
  t131 := Tryz.underlying335
  a131 := Tryz.isAgg335
  z131 := Tryz.sizeOf335
  v131 := Tryz.zeroValue335
  t182 := Tryz.underlying330
  a182 := Tryz.isAgg330
  z182 := Tryz.sizeOf330
  v182 := Tryz.zeroValue330
  t183 := Tryz.underlying331
  a183 := Tryz.isAgg331
  z183 := Tryz.sizeOf331
  v183 := Tryz.zeroValue331
  t218 := Tryz.underlying339
  a218 := Tryz.isAgg339
  z218 := Tryz.sizeOf339
  v218 := Tryz.zeroValue339
  t222 := Tryz.underlying343
  a222 := Tryz.isAgg343
  z222 := Tryz.sizeOf343
  v222 := Tryz.zeroValue343
  t228 := Tryz.underlying345
  a228 := Tryz.isAgg345
  z228 := Tryz.sizeOf345
  v228 := Tryz.zeroValue345
  t229 := Tryz.underlying27
  a229 := Tryz.isAgg27
  z229 := Tryz.sizeOf27
  v229 := Tryz.zeroValue27 }
open Go.Sort Go.RowKit in
theorem Tryz.slices_Sort_int (blk off cap : Nat) (zs : List Int) (w : World) (hH : Holds (Value.int .i64) w blk off zs.toArray) (hblk : blk < w.heap.size) (hsz : zs.length < 4611686018427387904) :
    Calls Tryz.prog 242 #[.slice (some ⟨blk, off, none⟩) zs.length cap] w fun e w' =>
      e = .returned (.tuple #[]) ∧ ∃ n os, w' = grow (putRow (Value.int .i64) (Sort.ahead w n) blk off (zs.mergeSort fun x y => decide (x ≤ y)).toArray) os := Any.slices_Sort_int Tryz.lays189 blk off cap zs w hH hblk hsz
open Go.RowKit Go.Sort in
/-- .. and plain. (LAID: no walk: one application.) -/
theorem Tryz.slices_Sort_int_none (p : Option Addr) (cap : Nat) (w : World) :
    Calls Tryz.prog 242 #[.slice p 0 cap] w fun e w' => e = .returned (.tuple #[]) ∧ w' = w := Any.slices_Sort_int_none Tryz.lays189 p cap w
end Go.Proofs
