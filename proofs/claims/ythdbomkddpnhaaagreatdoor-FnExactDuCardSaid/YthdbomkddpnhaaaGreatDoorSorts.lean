/- slices.Sort and slices.Compact at this program's own places, by the library's contracts: what becomes of a row of one's own. -/
import Derived.Test.YthdbomkddpnhaaaGreatDoorSgn
import Derived.Test.YthdbomkddpnhaaaGreatDoorStrs
import Derived.Shelf.Sort.Plain
import Derived.Shelf.Slices.CompactI
import Derived.Sort.OwnSortedInts
import Derived.Lib.SlicesCompact
namespace Go.Proofs.YthdbomkddpnhaaaGreatDoor
open Go Go.RowKit

def Tryz.lays189_ren : Go.Shelf.Ren := ⟨fun | 189 => 101 | 125 => 174 | 257 => 173 | 128 => 243 | 129 => 244 | 294 => 234 | 295 => 235 | 296 => 236 | 297 => 237 | 298 => 238 | 299 => 239 | 216 => 240 | 300 => 241 | 301 => 242 | 328 => 280 | 329 => 281 | 330 => 282 | 331 => 283 | 332 => 284 | 215 => 285 | 343 => 318 | n => n, fun | 28 => 121 | 3 => 3 | 46 => 166 | 0 => 0 | 51 => 239 | 53 => 241 | 4 => 4 | 183 => 231 | 182 => 230 | 131 => 236 | 5 => 5 | 9 => 9 | 218 => 257 | 222 => 261 | 228 => 276 | 229 => 26 | n => n, fun | n => n⟩
theorem Tryz.lays189 : Go.Proofs.Lays.n189 Tryz.prog Tryz.lays189_ren where
  mixed := by kernel_rfl
  f125 := Tryz.func174.trans (congrArg some (by kernel_rfl))
  f128 := Tryz.func243.trans (congrArg some (by kernel_rfl))
  f129 := Tryz.func244.trans (congrArg some (by kernel_rfl))
  f189 := Tryz.func101.trans (congrArg some (by kernel_rfl))
  f215 := Tryz.func285.trans (congrArg some (by kernel_rfl))
  f216 := Tryz.func240.trans (congrArg some (by kernel_rfl))
  f257 := Tryz.func173.trans (congrArg some (by kernel_rfl))
  f294 := Tryz.func234.trans (congrArg some (by kernel_rfl))
  f295 := Tryz.func235.trans (congrArg some (by kernel_rfl))
  f296 := Tryz.func236.trans (congrArg some (by kernel_rfl))
  f297 := Tryz.func237.trans (congrArg some (by kernel_rfl))
  f298 := Tryz.func238.trans (congrArg some (by kernel_rfl))
  f299 := Tryz.func239.trans (congrArg some (by kernel_rfl))
  f300 := Tryz.func241.trans (congrArg some (by kernel_rfl))
  f301 := Tryz.func242.trans (congrArg some (by kernel_rfl))
  f328 := Tryz.func280.trans (congrArg some (by kernel_rfl))
  f329 := Tryz.func281.trans (congrArg some (by kernel_rfl))
  f330 := Tryz.func282.trans (congrArg some (by kernel_rfl))
  f331 := Tryz.func283.trans (congrArg some (by kernel_rfl))
  f332 := Tryz.func284.trans (congrArg some (by kernel_rfl))
  f343 := Tryz.func318.trans (congrArg some (by kernel_rfl))
  t0 := Tryz.underlying0
  a0 := Tryz.isAgg0
  z0 := Tryz.sizeOf0
  v0 := Tryz.zeroValue0
  t3 := Tryz.underlying3
  a3 := Tryz.isAgg3
  z3 := Tryz.sizeOf3
  v3 := Tryz.zeroValue3
  t4 := Tryz.underlying4
  a4 := Tryz.isAgg4
  z4 := Tryz.sizeOf4
  v4 := Tryz.zeroValue4
  t5 := Tryz.underlying5
  a5 := Tryz.isAgg5
  z5 := Tryz.sizeOf5
  v5 := Tryz.zeroValue5
  t9 := Tryz.underlying9
  a9 := Tryz.isAgg9
  z9 := Tryz.sizeOf9
  v9 := Tryz.zeroValue9
  t28 := Tryz.underlying121
  a28 := Tryz.isAgg121
  z28 := Tryz.sizeOf121
  v28 := Tryz.zeroValue121
  t46 := Tryz.underlying166
  a46 := Tryz.isAgg166
  z46 := Tryz.sizeOf166
  v46 := Tryz.zeroValue166
  t51 := Tryz.underlying239
  a51 := Tryz.isAgg239
  z51 := Tryz.sizeOf239
  v51 := Tryz.zeroValue239
  t53 := Tryz.underlying241
  a53 := Tryz.isAgg241
  z53 := Tryz.sizeOf241
  v53 := Tryz.zeroValue241
  t131 := Tryz.underlying236
  a131 := Tryz.isAgg236
  z131 := Tryz.sizeOf236
  v131 := Tryz.zeroValue236
  t182 := Tryz.underlying230
  a182 := Tryz.isAgg230
  z182 := Tryz.sizeOf230
  v182 := Tryz.zeroValue230
  t183 := Tryz.underlying231
  a183 := Tryz.isAgg231
  z183 := Tryz.sizeOf231
  v183 := Tryz.zeroValue231
  t218 := Tryz.underlying257
  a218 := Tryz.isAgg257
  z218 := Tryz.sizeOf257
  v218 := Tryz.zeroValue257
  t222 := Tryz.underlying261
  a222 := Tryz.isAgg261
  z222 := Tryz.sizeOf261
  v222 := Tryz.zeroValue261
  t228 := Tryz.underlying276
  a228 := Tryz.isAgg276
  z228 := Tryz.sizeOf276
  v228 := Tryz.zeroValue276
  t229 := Tryz.underlying26
  a229 := Tryz.isAgg26
  z229 := Tryz.sizeOf26
  v229 := Tryz.zeroValue26
def Tryz.lays190_ren : Go.Shelf.Ren := ⟨fun | 190 => 181 | 125 => 174 | 258 => 248 | 128 => 243 | 129 => 244 | 302 => 290 | 303 => 291 | 304 => 292 | 305 => 293 | 306 => 294 | 307 => 295 | 308 => 296 | 309 => 297 | 310 => 298 | 333 => 319 | 329 => 281 | 330 => 282 | 334 => 320 | 335 => 321 | 336 => 322 | 344 => 330 | n => n, fun | 31 => 41 | 9 => 9 | 3 => 3 | 46 => 166 | 0 => 0 | 51 => 239 | 53 => 241 | 4 => 4 | 183 => 231 | 182 => 230 | 131 => 236 | 5 => 5 | 218 => 257 | 222 => 261 | 228 => 276 | 229 => 26 | n => n, fun | n => n⟩
theorem Tryz.lays190 : Go.Proofs.Lays.n190 Tryz.prog Tryz.lays190_ren where
  mixed := by kernel_rfl
  f125 := Tryz.func174.trans (congrArg some (by kernel_rfl))
  f128 := Tryz.func243.trans (congrArg some (by kernel_rfl))
  f129 := Tryz.func244.trans (congrArg some (by kernel_rfl))
  f190 := Tryz.func181.trans (congrArg some (by kernel_rfl))
  f258 := Tryz.func248.trans (congrArg some (by kernel_rfl))
  f302 := Tryz.func290.trans (congrArg some (by kernel_rfl))
  f303 := Tryz.func291.trans (congrArg some (by kernel_rfl))
  f304 := Tryz.func292.trans (congrArg some (by kernel_rfl))
  f305 := Tryz.func293.trans (congrArg some (by kernel_rfl))
  f306 := Tryz.func294.trans (congrArg some (by kernel_rfl))
  f307 := Tryz.func295.trans (congrArg some (by kernel_rfl))
  f308 := Tryz.func296.trans (congrArg some (by kernel_rfl))
  f309 := Tryz.func297.trans (congrArg some (by kernel_rfl))
  f310 := Tryz.func298.trans (congrArg some (by kernel_rfl))
  f329 := Tryz.func281.trans (congrArg some (by kernel_rfl))
  f330 := Tryz.func282.trans (congrArg some (by kernel_rfl))
  f333 := Tryz.func319.trans (congrArg some (by kernel_rfl))
  f334 := Tryz.func320.trans (congrArg some (by kernel_rfl))
  f335 := Tryz.func321.trans (congrArg some (by kernel_rfl))
  f336 := Tryz.func322.trans (congrArg some (by kernel_rfl))
  f344 := Tryz.func330.trans (congrArg some (by kernel_rfl))
  t0 := Tryz.underlying0
  a0 := Tryz.isAgg0
  z0 := Tryz.sizeOf0
  v0 := Tryz.zeroValue0
  t3 := Tryz.underlying3
  a3 := Tryz.isAgg3
  z3 := Tryz.sizeOf3
  v3 := Tryz.zeroValue3
  t4 := Tryz.underlying4
  a4 := Tryz.isAgg4
  z4 := Tryz.sizeOf4
  v4 := Tryz.zeroValue4
  t5 := Tryz.underlying5
  a5 := Tryz.isAgg5
  z5 := Tryz.sizeOf5
  v5 := Tryz.zeroValue5
  t9 := Tryz.underlying9
  a9 := Tryz.isAgg9
  z9 := Tryz.sizeOf9
  v9 := Tryz.zeroValue9
  t31 := Tryz.underlying41
  a31 := Tryz.isAgg41
  z31 := Tryz.sizeOf41
  v31 := Tryz.zeroValue41
  t46 := Tryz.underlying166
  a46 := Tryz.isAgg166
  z46 := Tryz.sizeOf166
  v46 := Tryz.zeroValue166
  t51 := Tryz.underlying239
  a51 := Tryz.isAgg239
  z51 := Tryz.sizeOf239
  v51 := Tryz.zeroValue239
  t53 := Tryz.underlying241
  a53 := Tryz.isAgg241
  z53 := Tryz.sizeOf241
  v53 := Tryz.zeroValue241
  t131 := Tryz.underlying236
  a131 := Tryz.isAgg236
  z131 := Tryz.sizeOf236
  v131 := Tryz.zeroValue236
  t182 := Tryz.underlying230
  a182 := Tryz.isAgg230
  z182 := Tryz.sizeOf230
  v182 := Tryz.zeroValue230
  t183 := Tryz.underlying231
  a183 := Tryz.isAgg231
  z183 := Tryz.sizeOf231
  v183 := Tryz.zeroValue231
  t218 := Tryz.underlying257
  a218 := Tryz.isAgg257
  z218 := Tryz.sizeOf257
  v218 := Tryz.zeroValue257
  t222 := Tryz.underlying261
  a222 := Tryz.isAgg261
  z222 := Tryz.sizeOf261
  v222 := Tryz.zeroValue261
  t228 := Tryz.underlying276
  a228 := Tryz.isAgg276
  z228 := Tryz.sizeOf276
  v228 := Tryz.zeroValue276
  t229 := Tryz.underlying26
  a229 := Tryz.isAgg26
  z229 := Tryz.sizeOf26
  v229 := Tryz.zeroValue26
def Tryz.lays2n20_ren : Go.Shelf.Ren := ⟨fun | 20 => 102 | n => n, fun | 22 => 121 | 3 => 3 | 4 => 4 | 0 => 0 | n => n, fun | n => n⟩
theorem Tryz.lays2n20 : Go.Proofs.Lays2.n20 Tryz.prog Tryz.lays2n20_ren where
  mixed := by kernel_rfl
  f20 := Tryz.func102.trans (congrArg some (by kernel_rfl))
  t0 := Tryz.underlying0
  a0 := Tryz.isAgg0
  z0 := Tryz.sizeOf0
  v0 := Tryz.zeroValue0
  t3 := Tryz.underlying3
  a3 := Tryz.isAgg3
  z3 := Tryz.sizeOf3
  v3 := Tryz.zeroValue3
  t4 := Tryz.underlying4
  a4 := Tryz.isAgg4
  z4 := Tryz.sizeOf4
  v4 := Tryz.zeroValue4
  t22 := Tryz.underlying121
  a22 := Tryz.isAgg121
  z22 := Tryz.sizeOf121
  v22 := Tryz.zeroValue121
  i3 := by kernel_rfl

/-- A row of numbers, rising. -/
noncomputable def sortL (l : List Int) : List Int := l.mergeSort fun x y => decide (x ≤ y)
theorem sortL_len (l : List Int) : (sortL l).length = l.length := List.length_mergeSort l
theorem compact_len (l : List Int) : (Lib.compact l).length ≤ l.length := by
  unfold Lib.compact Lib.compactUpTo
  rw [List.length_map]
  exact Nat.le_trans (List.length_filter_le _ _) (by simp)

theorem sortI_any {w : World} {base n : Nat} {v : Value} (l : List Int) (h : w.ownsRow base 3 1 v n (II l)) (hn : 0 < n) (hn2 : n ≤ 1000000000) :
    Calls Tryz.prog 101 #[v] w fun e w' => e = .returned (.tuple #[]) ∧ w'.ownsRow base 3 1 v n (II (sortL l)) ∧ w.grownBy w' v.ownBlock := by
  have hl : l.length = n := by have := h.1; unfold II at this; simpa using this
  subst hl
  rcases h.2 with ⟨rfl, h0⟩ | ⟨g, cap, cur, rfl, hbase, hb, h1, h2, h3, h4⟩
  · omega
  · have hc := Any.slices_Sort_int Tryz.lays189 g 0 cap l w (holds_of_blockI hb (by simpa [II] using h4)) (Array.getElem?_eq_some_iff.1 hb).1 (by omega)
    refine hc.mono ?_
    rintro e w' ⟨rfl, q, os, rfl⟩
    exact ⟨rfl, ownsRow_sortedI (sortL_len l) hbase hb h1 h2 h3, by rw [show (Value.slice (some ⟨g, 0, none⟩) l.length cap).ownBlock = some g from rfl]; exact grownBy_sortedI _⟩

theorem compactI_any {w : World} {base n g cap : Nat} (l : List Int) (h : w.ownsRow base 3 1 (.slice (some ⟨g, 0, none⟩) n cap) n (II l)) (hn2 : n ≤ 1000000000) :
    Calls Tryz.prog 102 #[.slice (some ⟨g, 0, none⟩) n cap] w fun e w' => e = .returned (.slice (some ⟨g, 0, none⟩) (Lib.compact l).length cap) ∧
      w'.ownsRow base 3 1 (.slice (some ⟨g, 0, none⟩) (Lib.compact l).length cap) (Lib.compact l).length (II (Lib.compact l)) ∧ w.grownBy w' (some g) := by
  have hl : l.length = n := by have := h.1; unfold II at this; simpa using this
  subst hl
  obtain ⟨hbase, cur, hb, h1, h2, h3, h4⟩ := own_some h
  have hc := Any.slices_Compact_int Tryz.lays2n20 g 0 cap l w (holds_of_blockI hb (by simpa [II] using h4)) (by omega) h1
  refine hc.mono ?_
  rintro e w' ⟨rfl, q, rfl⟩
  have hk := compact_len l
  have hg := grownBy_sortedI (w := w) (g := g) (n := q) (os := #[]) (Lib.compact l ++ List.replicate (l.length - (Lib.compact l).length) 0).toArray
  have ho := ownsRow_sortedI (w := w) (n := q) (os := #[]) (ss := l) (ts := Lib.compact l ++ List.replicate (l.length - (Lib.compact l).length) 0) (by rw [List.length_append, List.length_replicate]; omega) hbase hb h1 h2 h3
  rw [Sort.grow_empty] at hg ho
  refine ⟨rfl, ?_, hg⟩
  have h5 := own_pre ho (Lib.compact l).length hk
  rw [List.map_append, List.take_append_of_le_length (by simp), List.take_of_length_le (by simp)] at h5
  exact h5

/-- A row of texts, rising. -/
noncomputable def sortS (l : List ByteArray) : List ByteArray := ((l.map fun s => s.data.toList).mergeSort fun x y => decide (x ≤ y)).map fun x => (⟨x.toArray⟩ : ByteArray)
theorem sortS_len (l : List ByteArray) : (sortS l).length = l.length := by unfold sortS; simp
theorem SS_enc (l : List ByteArray) : SS l = (l.map fun s => s.data.toList).map encStr := by
  unfold SS; rw [List.map_map]; rfl
theorem SS_sort (l : List ByteArray) : SS (sortS l) = ((l.map fun s => s.data.toList).mergeSort fun x y => decide (x ≤ y)).map encStr := by
  unfold SS sortS; rw [List.map_map]; rfl

theorem sortS_any {w : World} {base n : Nat} {v : Value} (l : List ByteArray) (h : w.ownsRow base 9 1 v n (SS l)) (hn : 0 < n) (hn2 : n ≤ 1000000000) :
    Calls Tryz.prog 181 #[v] w fun e w' => e = .returned (.tuple #[]) ∧ w'.ownsRow base 9 1 v n (SS (sortS l)) ∧ w.grownBy w' v.ownBlock := by
  have hl : l.length = n := by have := h.1; unfold SS at this; simpa using this
  subst hl
  rcases h.2 with ⟨rfl, h0⟩ | ⟨g, cap, cur, rfl, hbase, hb, h1, h2, h3, h4⟩
  · omega
  · have hc := Any.slices_Sort_string Tryz.lays190 g 0 cap (l.map fun s => s.data.toList) w (holds_of_block hb (by rw [List.length_map, ← SS_enc]; simpa using h4)) (Array.getElem?_eq_some_iff.1 hb).1 (by rw [List.length_map]; omega)
    rw [List.length_map] at hc
    refine hc.mono ?_
    rintro e w' ⟨rfl, q, os, rfl⟩
    have ho := ownsRow_sorted (w := w) (n := q) (os := os) (ss := l.map fun s => s.data.toList) (ts := (l.map fun s => s.data.toList).mergeSort fun x y => decide (x ≤ y)) (List.length_mergeSort _) hbase hb (by rw [List.length_map]; exact h1) h2 h3
    rw [List.length_map, ← SS_sort] at ho
    exact ⟨rfl, ho, by rw [show (Value.slice (some ⟨g, 0, none⟩) l.length cap).ownBlock = some g from rfl]; exact grownBy_sorted _⟩

end Go.Proofs.YthdbomkddpnhaaaGreatDoor
