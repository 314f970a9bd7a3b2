/- The contracts of slices.Sort and slices.Clone at ints, laid at this program (printed by the kit's layers, in plain words; cut down to what is used). -/
import Derived.Shelf.Sort.Plain
import Derived.Ground.Names2Prog
import Derived.Shelf.Slices.Clone
import Derived.Ground.SlgnProg
import Derived.Shelf.SlicesE.Clone
import Derived.Test.YtgpefemnabjfcaaProg
namespace Go.Proofs
def Try.lays189_ren : Go.Shelf.Ren := ⟨fun | 189 => 13 | 125 => 17 | 257 => 16 | 128 => 27 | 129 => 28 | 294 => 18 | 295 => 19 | 296 => 20 | 297 => 21 | 298 => 22 | 299 => 23 | 216 => 24 | 300 => 25 | 301 => 26 | 328 => 29 | 329 => 30 | 330 => 31 | 331 => 32 | 332 => 33 | 215 => 34 | 343 => 35 | n => n, fun | 28 => 22 | 3 => 3 | 46 => 33 | 0 => 0 | 51 => 44 | 53 => 46 | 4 => 4 | 183 => 36 | 182 => 35 | 131 => 41 | 5 => 5 | 9 => 9 | 218 => 47 | 222 => 51 | 228 => 54 | 229 => 55 | n => n, fun | n => n⟩
theorem Try.lays189 : Go.Proofs.Lays.n189 Try.prog Try.lays189_ren := {
  mixed := by kernel_rfl
  f125 := Try.func17.trans (congrArg some (by kernel_rfl))
  f128 := Try.func27.trans (congrArg some (by kernel_rfl))
  f129 := Try.func28.trans (congrArg some (by kernel_rfl))
  f189 := Try.func13.trans (congrArg some (by kernel_rfl))
  f215 := Try.func34.trans (congrArg some (by kernel_rfl))
  f216 := Try.func24.trans (congrArg some (by kernel_rfl))
  f257 := Try.func16.trans (congrArg some (by kernel_rfl))
  f294 := Try.func18.trans (congrArg some (by kernel_rfl))
  f295 := Try.func19.trans (congrArg some (by kernel_rfl))
  f296 := Try.func20.trans (congrArg some (by kernel_rfl))
  f297 := Try.func21.trans (congrArg some (by kernel_rfl))
  f298 := Try.func22.trans (congrArg some (by kernel_rfl))
  f299 := Try.func23.trans (congrArg some (by kernel_rfl))
  f300 := Try.func25.trans (congrArg some (by kernel_rfl))
  f301 := Try.func26.trans (congrArg some (by kernel_rfl))
  f328 := Try.func29.trans (congrArg some (by kernel_rfl))
  f329 := Try.func30.trans (congrArg some (by kernel_rfl))
  f330 := Try.func31.trans (congrArg some (by kernel_rfl))
  f331 := Try.func32.trans (congrArg some (by kernel_rfl))
  f332 := Try.func33.trans (congrArg some (by kernel_rfl))
  f343 := Try.func35.trans (congrArg some (by kernel_rfl))
  t0 := Try.underlying0
  a0 := Try.isAgg0
  z0 := Try.sizeOf0
  v0 := Try.zeroValue0
  t3 := Try.underlying3
  a3 := Try.isAgg3
  z3 := Try.sizeOf3
  v3 := Try.zeroValue3
  t4 := Try.underlying4
  a4 := Try.isAgg4
  z4 := Try.sizeOf4
  v4 := Try.zeroValue4
  t5 := Try.underlying5
  a5 := Try.isAgg5
  z5 := Try.sizeOf5
  v5 := Try.zeroValue5
  t9 := Try.underlying9
  a9 := Try.isAgg9
  z9 := Try.sizeOf9
  v9 := Try.zeroValue9
  t28 := Try.underlying22
  a28 := Try.isAgg22
  z28 := Try.sizeOf22
  v28 := Try.zeroValue22
  t46 := Try.underlying33
  a46 := Try.isAgg33
  z46 := Try.sizeOf33
  v46 := Try.zeroValue33
  t51 := Try.underlying44
  a51 := Try.isAgg44
  z51 := Try.sizeOf44
  v51 := Try.zeroValue44
  t53 := Try.underlying46
  a53 := Try.isAgg46
  z53 := Try.sizeOf46
  v53 := Try.zeroValue46
  t131 := Try.underlying41
  a131 := Try.isAgg41
  z131 := Try.sizeOf41
  v131 := Try.zeroValue41
  t182 := Try.underlying35
  a182 := Try.isAgg35
  z182 := Try.sizeOf35
  v182 := Try.zeroValue35
  t183 := Try.underlying36
  a183 := Try.isAgg36
  z183 := Try.sizeOf36
  v183 := Try.zeroValue36
  t218 := Try.underlying47
  a218 := Try.isAgg47
  z218 := Try.sizeOf47
  v218 := Try.zeroValue47
  t222 := Try.underlying51
  a222 := Try.isAgg51
  z222 := Try.sizeOf51
  v222 := Try.zeroValue51
  t228 := Try.underlying54
  a228 := Try.isAgg54
  z228 := Try.sizeOf54
  v228 := Try.zeroValue54
  t229 := Try.underlying55
  a229 := Try.isAgg55
  z229 := Try.sizeOf55
  v229 := Try.zeroValue55 }
open Go.Sort Go.RowKit in
theorem Try.slices_Sort_int (blk off cap : Nat) (zs : List Int) (w : World) (hH : Holds (Value.int .i64) w blk off zs.toArray) (hblk : blk < w.heap.size) (hsz : zs.length < 4611686018427387904) :
    Calls Try.prog 13 #[.slice (some ⟨blk, off, none⟩) zs.length cap] w fun e w' =>
      e = .returned (.tuple #[]) ∧ ∃ n os, w' = grow (putRow (Value.int .i64) (Sort.ahead w n) blk off (zs.mergeSort fun x y => decide (x ≤ y)).toArray) os := Any.slices_Sort_int Try.lays189 blk off cap zs w hH hblk hsz
def Try.laysNm215_ren : Go.Shelf.Ren := ⟨fun | 15 => 12 | n => n, fun | 22 => 22 | 3 => 3 | 4 => 4 | n => n, fun | n => n⟩
theorem Try.laysNm215 : Go.Proofs.Lays2.n15 Try.prog Try.laysNm215_ren := {
  mixed := by kernel_rfl
  f15 := Try.func12.trans (congrArg some (by kernel_rfl))
  t3 := Try.underlying3
  a3 := Try.isAgg3
  z3 := Try.sizeOf3
  v3 := Try.zeroValue3
  t4 := Try.underlying4
  a4 := Try.isAgg4
  z4 := Try.sizeOf4
  v4 := Try.zeroValue4
  t22 := Try.underlying22
  a22 := Try.isAgg22
  z22 := Try.sizeOf22
  v22 := Try.zeroValue22
  i3 := by kernel_rfl }
open Go.RowKit Go.Lib in
theorem Try.slices_Clone_int (b off n c : Nat) (zs : List Int) (w : World) (hz : n ≤ zs.length) (hbig : n * 8 ≤ 140737488355328) (hc : ∀ j, j < zs.length → w.cell? ⟨b, off + j, none⟩ = some (.int .i64 (zs.getD j 0))) :
    Calls Try.prog 12 #[.slice (some ⟨b, off, none⟩) n c] w fun e w' => ∃ v', e = .returned v' ∧ w'.ownsRow w.heap.size 3 1 v' n ((zs.take n).map (Value.int .i64)) ∧ v' ≠ .slice none 0 0 ∧ Below w.heap.size w w' := Any.slices_Clone_int Try.laysNm215 b off n c zs w hz hbig hc
end Go.Proofs
