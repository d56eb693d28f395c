/- slices.Sort and slices.Compact at this program's own places, by the library's contracts: what becomes of a row of one's own. -/
import Derived.Test.YthdbomkddpnhaaaGreatDoorPSgn
import Derived.Test.YthdbomkddpnhaaaGreatDoorPStrs
import Derived.Shelf.Sort.Plain
import Derived.Shelf.Slices.CompactI
import Derived.Sort.OwnSortedInts
import Derived.Lib.SlicesCompact
namespace Go.Proofs.YthdbomkddpnhaaaGreatDoor
open Go Go.RowKit

def Tryz.lays190_ren : Go.Shelf.Ren := ⟨fun | 190 => 181 | 125 => 174 | 258 => 248 | 128 => 243 | 129 => 244 | 302 => 290 | 303 => 291 | 304 => 292 | 305 => 293 | 306 => 294 | 307 => 295 | 308 => 296 | 309 => 297 | 310 => 298 | 333 => 319 | 329 => 281 | 330 => 282 | 334 => 320 | 335 => 321 | 336 => 322 | 344 => 330 | n => n, fun | 31 => 41 | 9 => 9 | 3 => 3 | 46 => 166 | 0 => 0 | 51 => 239 | 53 => 241 | 4 => 4 | 183 => 231 | 182 => 230 | 131 => 236 | 5 => 5 | 218 => 257 | 222 => 261 | 228 => 276 | 229 => 26 | n => n, fun | n => n⟩
theorem Tryz.lays190 : Go.Proofs.Lays.n190 Tryz.prog Tryz.lays190_ren where
 mixed := by kernel_rfl
 f125 := Tryz.func174.trans (congrArg some (by kernel_rfl))
 f128 := Tryz.func243.trans (congrArg some (by kernel_rfl))
 f129 := Tryz.func244.trans (congrArg some (by kernel_rfl))
 f190 := Tryz.func181.trans (congrArg some (by kernel_rfl))
 f258 := Tryz.func248.trans (congrArg some (by kernel_rfl))
 f302 := Tryz.func290.trans (congrArg some (by kernel_rfl))
 f303 := Tryz.func291.trans (congrArg some (by kernel_rfl))
 f304 := Tryz.func292.trans (congrArg some (by kernel_rfl))
 f305 := Tryz.func293.trans (congrArg some (by kernel_rfl))
 f306 := Tryz.func294.trans (congrArg some (by kernel_rfl))
 f307 := Tryz.func295.trans (congrArg some (by kernel_rfl))
 f308 := Tryz.func296.trans (congrArg some (by kernel_rfl))
 f309 := Tryz.func297.trans (congrArg some (by kernel_rfl))
 f310 := Tryz.func298.trans (congrArg some (by kernel_rfl))
 f329 := Tryz.func281.trans (congrArg some (by kernel_rfl))
 f330 := Tryz.func282.trans (congrArg some (by kernel_rfl))
 f333 := Tryz.func319.trans (congrArg some (by kernel_rfl))
 f334 := Tryz.func320.trans (congrArg some (by kernel_rfl))
 f335 := Tryz.func321.trans (congrArg some (by kernel_rfl))
 f336 := Tryz.func322.trans (congrArg some (by kernel_rfl))
 f344 := Tryz.func330.trans (congrArg some (by kernel_rfl))
 t0 := Tryz.underlying0
 a0 := Tryz.isAgg0
 z0 := Tryz.sizeOf0
 v0 := Tryz.zeroValue0
 t3 := Tryz.underlying3
 a3 := Tryz.isAgg3
 z3 := Tryz.sizeOf3
 v3 := Tryz.zeroValue3
 t4 := Tryz.underlying4
 a4 := Tryz.isAgg4
 z4 := Tryz.sizeOf4
 v4 := Tryz.zeroValue4
 t5 := Tryz.underlying5
 a5 := Tryz.isAgg5
 z5 := Tryz.sizeOf5
 v5 := Tryz.zeroValue5
 t9 := Tryz.underlying9
 a9 := Tryz.isAgg9
 z9 := Tryz.sizeOf9
 v9 := Tryz.zeroValue9
 t31 := Tryz.underlying41
 a31 := Tryz.isAgg41
 z31 := Tryz.sizeOf41
 v31 := Tryz.zeroValue41
 t46 := Tryz.underlying166
 a46 := Tryz.isAgg166
 z46 := Tryz.sizeOf166
 v46 := Tryz.zeroValue166
 t51 := Tryz.underlying239
 a51 := Tryz.isAgg239
 z51 := Tryz.sizeOf239
 v51 := Tryz.zeroValue239
 t53 := Tryz.underlying241
 a53 := Tryz.isAgg241
 z53 := Tryz.sizeOf241
 v53 := Tryz.zeroValue241
 t131 := Tryz.underlying236
 a131 := Tryz.isAgg236
 z131 := Tryz.sizeOf236
 v131 := Tryz.zeroValue236
 t182 := Tryz.underlying230
 a182 := Tryz.isAgg230
 z182 := Tryz.sizeOf230
 v182 := Tryz.zeroValue230
 t183 := Tryz.underlying231
 a183 := Tryz.isAgg231
 z183 := Tryz.sizeOf231
 v183 := Tryz.zeroValue231
 t218 := Tryz.underlying257
 a218 := Tryz.isAgg257
 z218 := Tryz.sizeOf257
 v218 := Tryz.zeroValue257
 t222 := Tryz.underlying261
 a222 := Tryz.isAgg261
 z222 := Tryz.sizeOf261
 v222 := Tryz.zeroValue261
 t228 := Tryz.underlying276
 a228 := Tryz.isAgg276
 z228 := Tryz.sizeOf276
 v228 := Tryz.zeroValue276
 t229 := Tryz.underlying26
 a229 := Tryz.isAgg26
 z229 := Tryz.sizeOf26
 v229 := Tryz.zeroValue26
/-- A row of texts, rising. -/
noncomputable def sortS (l : List ByteArray) : List ByteArray := ((l.map fun s => s.data.toList).mergeSort fun x y => decide (x ≤ y)).map fun x => (⟨x.toArray⟩ : ByteArray)
theorem sortS_len (l : List ByteArray) : (sortS l).length = l.length := by unfold sortS; simp
theorem SS_enc (l : List ByteArray) : SS l = (l.map fun s => s.data.toList).map encStr := by
 unfold SS; rw [List.map_map]; rfl
theorem SS_sort (l : List ByteArray) : SS (sortS l) = ((l.map fun s => s.data.toList).mergeSort fun x y => decide (x ≤ y)).map encStr := by
 unfold SS sortS; rw [List.map_map]; rfl

end Go.Proofs.YthdbomkddpnhaaaGreatDoor

