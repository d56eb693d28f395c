/- An entry by a name, of a directory and of pages, in both packages. -/
import Derived.Test.YtjjniapamdleoaaGreatDoorRSDeep
import Derived.Test.YtjjniapamdleoaaGreatDoorRSDuP
import Derived.Test.YtjjniapamdleoaaGreatDoorRSStat
import Derived.Test.YtjjniapamdleoaaGreatDoorRSSgn
import Derived.Test.YtjjniapamdleoaaGreatDoorRSStrs
import Derived.Shelf.Sort.Plain
import Derived.Shelf.Slices.CompactI
import Derived.Sort.OwnSortedInts
import Derived.Lib.SlicesCompact
import Derived.Test.YtjjniapamdleoaaGreatDoorRSLook
namespace Go.Proofs.YtjjniapamdleoaaGreatDoor
open Go Go.RowKit
set_option maxHeartbeats 4000000
set_option maxRecDepth 100000

theorem deepI_pos {xs : List InoD} {T : Int -> Int} {a : Int} (h : ∀ i, 0 <= T i) : ∀ k, 1 <= deepI xs T a k
 | 0 => by simp [deepI]
 | k + 1 => by
  have ih := deepI_pos (xs := xs) (a := a) h k
  rw [deepI]
  split
  ·exact ih
  ·rename_i x _
   have := h x.id
   split <;> omega
theorem deepI_down {xs : List InoD} {T : Int -> Int} {a : Int} (k : Nat) : deepI xs T a (k + 1) <= deepI xs T a k := by
 rw [deepI]
 split
 ·exact Int.le_refl _
 ·split <;> omega
theorem deepI_at {xs : List InoD} {T : Int -> Int} {a : Int} {j : Nat} (hj : j < xs.length) (h : hasE a xs[j].es = true) : ∀ k, j < k -> deepI xs T a k <= 1 + T xs[j].id
 | 0, hk => absurd hk (Nat.not_lt_zero _)
 | k + 1, hk => by
  by_cases hjk : j = k
  ·subst hjk
   rw [deepI_succ hj, if_pos h]
   omega
  ·exact Int.le_trans (deepI_down k) (deepI_at hj h k (by omega))
section
variable {nx : Int} {xs : List InoD}
theorem deepP_ok (hv : VolP nx xs) {x : InoD} (hx : x ∈ xs) : deepP ⟨nx, xs⟩ x.id = if x.id = 1 then 0 else deepI xs (fun i => (min (dpt xs i) 15 : Nat)) x.id xs.length := by
 obtain ⟨k, hk, rfl⟩ := List.getElem_of_mem hx
 have hp := plc_own hv.grow hk
 unfold deepP
 rw [if_pos ⟨volOkB_iff.2 hv, by show 0 <= plc xs xs[k].id; omega⟩]
theorem deep_pos (hv : VolP nx xs) {x : InoD} (hx : x ∈ xs) : 0 <= deepP ⟨nx, xs⟩ x.id /\ (deepP ⟨nx, xs⟩ x.id = 0 ↔ x.id = 1) := by
 rw [deepP_ok hv hx]
 have := deepI_pos (xs := xs) (a := x.id) (T := fun i => (min (dpt xs i) 15 : Nat)) (fun i => by show (0 : Int) <= _; omega) xs.length
 split
 ·simp_all
 ·constructor
  ·omega
  ·constructor
   ·intro h; omega
   ·intro h; contradiction
theorem deepD_le (hv : VolP nx xs) {x : InoD} (hx : x ∈ xs) (hd : IsDirI xs x.id) : ((min (dpt xs x.id) 15 : Nat) : Int) <= deepP ⟨nx, xs⟩ x.id := by
 rw [deepP_ok hv hx]
 split
 ·rename_i h
  rw [h, dpt_one hv]
  decide
 ·rename_i h
  obtain ⟨b, hb, h1, h2, h3⟩ := up_one hv h hd
  rw [deepI_same (d := ((min (dpt xs b) 15 : Nat) : Int)) (by omega) (fun y hy hh => by show ((min (dpt xs y.id) 15 : Nat) : Int) = _; rw [h3 y hy hh]) _ h2, h1]
  omega
theorem deep_ent (hv : VolP nx xs) {x : InoD} (hx : x ∈ xs) {e : EntD} (he : e ∈ x.es) : 1 <= deepP ⟨nx, xs⟩ e.d /\ deepP ⟨nx, xs⟩ e.d <= deepP ⟨nx, xs⟩ x.id + 1 := by
 obtain ⟨h1, h2⟩ := hv.not1 hx he
 obtain ⟨j, hj, hpj, hid⟩ := plc_lt h2
 have hh : hasE e.d x.es = true := hasE_iff.2 ⟨e, he, rfl⟩
 have hd := deepD_le hv hx (up_is hv hx hh)
 have h3 := deepP_ok hv (List.getElem_mem hj)
 rw [hid, if_neg h1] at h3
 rw [h3]
 refine ⟨deepI_pos (fun i => by show (0 : Int) <= _; omega) _, ?_⟩
 obtain ⟨k, hk, rfl⟩ := List.getElem_of_mem hx
 have := deepI_at (T := fun i => ((min (dpt xs i) 15 : Nat) : Int)) hk hh xs.length hk
 omega
/-- What all files of the first so many have. -/
def sumS (xs : List InoD) : Nat -> Nat
 | 0 => 0
 | k + 1 => sumS xs k + match xs[k]? with | some x => x.s.size | none => 0
theorem sumS_succ {k : Nat} (hk : k < xs.length) : sumS xs (k + 1) = sumS xs k + xs[k].s.size := by rw [sumS, List.getElem?_eq_getElem hk]
theorem duS_leS (bs : List Bool) : ∀ k, duS xs bs k <= sumS xs k
 | 0 => Nat.le_refl _
 | k + 1 => by
  have ih := duS_leS bs k
  rw [duS, sumS]
  cases hx : xs[k]? with
  | none => simpa using ih
  | some x =>
   cases hb : bs[k]? with
   | none => simp only; omega
   | some b => cases b <;> simp only <;> omega
theorem sumS_mem {j : Nat} (hj : j < xs.length) : ∀ k, j < k -> xs[j].s.size <= sumS xs k
 | 0, h => absurd h (Nat.not_lt_zero _)
 | k + 1, h => by
  rw [sumS]
  by_cases hjk : j = k
  ·subst hjk; rw [List.getElem?_eq_getElem hj]; simp only; omega
  ·have := sumS_mem hj k (by omega); omega
theorem kd_two (hv : VolP nx xs) {x : InoD} (hx : x ∈ xs) : (x.kd = 1 ∨ x.kd = 2) /\ (x.kd = 2 -> x.s.size = 0) := by
 have h1 := hv.ino hx
 unfold inoOkB at h1
 split at h1
 ·rename_i h; exact ⟨.inl h, fun h2 => by omega⟩
 ·simp at h1
  refine ⟨.inr h1.1.1.1.1.1, fun _ => ?_⟩
  have := h1.1.1.1.1.2
  first
   | (rw [this]; rfl)
   | exact this
   | simpa using this
theorem duS_all (hv : VolP nx xs) : ∀ k, k <= xs.length -> duS xs (belowB xs 1) k = sumS xs k
 | 0, _ => rfl
 | k + 1, hk => by
  have ih := duS_all hv k (by omega)
  have hk' : k < xs.length := by omega
  rw [sumS_succ hk']
  by_cases h0 : k = 0
  ·subst h0
   obtain ⟨x, h1, h2, h3⟩ := hv.head
   rw [List.getElem?_eq_getElem hk'] at h1
   have h4 := Option.some.inj h1
   have h5 := (kd_two hv (List.getElem_mem hk')).2 (by rw [h4]; exact h3)
   rw [h5]
   have h6 := duS_leS (xs := xs) (belowB xs 1) 1
   rw [sumS_succ hk', h5] at h6
   have h7 : sumS xs 0 = 0 := rfl
   show duS xs (belowB xs 1) 1 = sumS xs 0 + 0
   omega
  ·have h1 := (below_own hv.grow 1 hk').2 (hv.reach k hk' (by omega))
   rw [duS_on hk' h1, ih]
theorem kind_all (hv : VolP nx xs) : ∀ k, k <= xs.length -> kindN xs 1 k + kindN xs 2 k = k
 | 0, _ => rfl
 | k + 1, hk => by
  have ih := kind_all hv k (by omega)
  have hk' : k < xs.length := by omega
  rcases (kd_two hv (List.getElem_mem hk')).1 with h | h
  ·rw [kindN_yes hk' h, kindN_no hk' (by omega)]; omega
  ·rw [kindN_no hk' (by omega), kindN_yes hk' h]; omega
end

def Tryz.lays189_ren : Go.Shelf.Ren := ⟨fun | 189 => 52 | 125 => 93 | 257 => 92 | 128 => 139 | 129 => 140 | 294 => 130 | 295 => 131 | 296 => 132 | 297 => 133 | 298 => 134 | 299 => 135 | 216 => 136 | 300 => 137 | 301 => 138 | 328 => 181 | 329 => 182 | 330 => 183 | 331 => 184 | 332 => 185 | 215 => 186 | 343 => 229 | n => n, fun | 28 => 73 | 3 => 3 | 46 => 113 | 0 => 0 | 51 => 146 | 53 => 148 | 4 => 4 | 183 => 138 | 182 => 137 | 131 => 143 | 5 => 5 | 9 => 9 | 218 => 174 | 222 => 178 | 228 => 197 | 229 => 32 | n => n, fun | n => n⟩
theorem Tryz.lays189 : Go.Proofs.Lays.n189 Tryz.prog Tryz.lays189_ren where
 mixed := by kernel_rfl
 f125 := Tryz.func93.trans (congrArg some (by kernel_rfl))
 f128 := Tryz.func139.trans (congrArg some (by kernel_rfl))
 f129 := Tryz.func140.trans (congrArg some (by kernel_rfl))
 f189 := Tryz.func52.trans (congrArg some (by kernel_rfl))
 f215 := Tryz.func186.trans (congrArg some (by kernel_rfl))
 f216 := Tryz.func136.trans (congrArg some (by kernel_rfl))
 f257 := Tryz.func92.trans (congrArg some (by kernel_rfl))
 f294 := Tryz.func130.trans (congrArg some (by kernel_rfl))
 f295 := Tryz.func131.trans (congrArg some (by kernel_rfl))
 f296 := Tryz.func132.trans (congrArg some (by kernel_rfl))
 f297 := Tryz.func133.trans (congrArg some (by kernel_rfl))
 f298 := Tryz.func134.trans (congrArg some (by kernel_rfl))
 f299 := Tryz.func135.trans (congrArg some (by kernel_rfl))
 f300 := Tryz.func137.trans (congrArg some (by kernel_rfl))
 f301 := Tryz.func138.trans (congrArg some (by kernel_rfl))
 f328 := Tryz.func181.trans (congrArg some (by kernel_rfl))
 f329 := Tryz.func182.trans (congrArg some (by kernel_rfl))
 f330 := Tryz.func183.trans (congrArg some (by kernel_rfl))
 f331 := Tryz.func184.trans (congrArg some (by kernel_rfl))
 f332 := Tryz.func185.trans (congrArg some (by kernel_rfl))
 f343 := Tryz.func229.trans (congrArg some (by kernel_rfl))
 t0 := Tryz.underlying0
 a0 := Tryz.isAgg0
 z0 := Tryz.sizeOf0
 v0 := Tryz.zeroValue0
 t3 := Tryz.underlying3
 a3 := Tryz.isAgg3
 z3 := Tryz.sizeOf3
 v3 := Tryz.zeroValue3
 t4 := Tryz.underlying4
 a4 := Tryz.isAgg4
 z4 := Tryz.sizeOf4
 v4 := Tryz.zeroValue4
 t5 := Tryz.underlying5
 a5 := Tryz.isAgg5
 z5 := Tryz.sizeOf5
 v5 := Tryz.zeroValue5
 t9 := Tryz.underlying9
 a9 := Tryz.isAgg9
 z9 := Tryz.sizeOf9
 v9 := Tryz.zeroValue9
 t28 := Tryz.underlying73
 a28 := Tryz.isAgg73
 z28 := Tryz.sizeOf73
 v28 := Tryz.zeroValue73
 t46 := Tryz.underlying113
 a46 := Tryz.isAgg113
 z46 := Tryz.sizeOf113
 v46 := Tryz.zeroValue113
 t51 := Tryz.underlying146
 a51 := Tryz.isAgg146
 z51 := Tryz.sizeOf146
 v51 := Tryz.zeroValue146
 t53 := Tryz.underlying148
 a53 := Tryz.isAgg148
 z53 := Tryz.sizeOf148
 v53 := Tryz.zeroValue148
 t131 := Tryz.underlying143
 a131 := Tryz.isAgg143
 z131 := Tryz.sizeOf143
 v131 := Tryz.zeroValue143
 t182 := Tryz.underlying137
 a182 := Tryz.isAgg137
 z182 := Tryz.sizeOf137
 v182 := Tryz.zeroValue137
 t183 := Tryz.underlying138
 a183 := Tryz.isAgg138
 z183 := Tryz.sizeOf138
 v183 := Tryz.zeroValue138
 t218 := Tryz.underlying174
 a218 := Tryz.isAgg174
 z218 := Tryz.sizeOf174
 v218 := Tryz.zeroValue174
 t222 := Tryz.underlying178
 a222 := Tryz.isAgg178
 z222 := Tryz.sizeOf178
 v222 := Tryz.zeroValue178
 t228 := Tryz.underlying197
 a228 := Tryz.isAgg197
 z228 := Tryz.sizeOf197
 v228 := Tryz.zeroValue197
 t229 := Tryz.underlying32
 a229 := Tryz.isAgg32
 z229 := Tryz.sizeOf32
 v229 := Tryz.zeroValue32
def Tryz.lays2n20_ren : Go.Shelf.Ren := ⟨fun | 20 => 53 | n => n, fun | 22 => 73 | 3 => 3 | 4 => 4 | 0 => 0 | n => n, fun | n => n⟩
theorem Tryz.lays2n20 : Go.Proofs.Lays2.n20 Tryz.prog Tryz.lays2n20_ren where
 mixed := by kernel_rfl
 f20 := Tryz.func53.trans (congrArg some (by kernel_rfl))
 t0 := Tryz.underlying0
 a0 := Tryz.isAgg0
 z0 := Tryz.sizeOf0
 v0 := Tryz.zeroValue0
 t3 := Tryz.underlying3
 a3 := Tryz.isAgg3
 z3 := Tryz.sizeOf3
 v3 := Tryz.zeroValue3
 t4 := Tryz.underlying4
 a4 := Tryz.isAgg4
 z4 := Tryz.sizeOf4
 v4 := Tryz.zeroValue4
 t22 := Tryz.underlying73
 a22 := Tryz.isAgg73
 z22 := Tryz.sizeOf73
 v22 := Tryz.zeroValue73
 i3 := by kernel_rfl

/-- A row of numbers, rising. -/
noncomputable def sortL (l : List Int) : List Int := l.mergeSort fun x y => decide (x <= y)
theorem sortL_len (l : List Int) : (sortL l).length = l.length := List.length_mergeSort l
theorem compact_len (l : List Int) : (Lib.compact l).length <= l.length := by
 unfold Lib.compact Lib.compactUpTo
 rw [List.length_map]
 exact Nat.le_trans (List.length_filter_le _ _) (by simp)

theorem sortI_any {w : World} {base n : Nat} {v : Value} (l : List Int) (h : w.ownsRow base 3 1 v n (II l)) (hn : 0 < n) (hn2 : n <= 1000000000) :
  Calls Tryz.prog 52 #[v] w fun e w' => e = .returned (.tuple #[]) /\ w'.ownsRow base 3 1 v n (II (sortL l)) /\ w.grownBy w' v.ownBlock := by
 have hl : l.length = n := by have := h.1; unfold II at this; simpa using this
 subst hl
 rcases h.2 with ⟨rfl, h0⟩ | ⟨g, cap, cur, rfl, hbase, hb, h1, h2, h3, h4⟩
 ·omega
 ·have hc := Any.slices_Sort_int Tryz.lays189 g 0 cap l w (holds_of_blockI hb (by simpa [II] using h4)) (Array.getElem?_eq_some_iff.1 hb).1 (by omega)
  refine hc.mono ?_
  rintro e w' ⟨rfl, q, os, rfl⟩
  exact ⟨rfl, ownsRow_sortedI (sortL_len l) hbase hb h1 h2 h3, by rw [show (Value.slice (some ⟨g, 0, none⟩) l.length cap).ownBlock = some g from rfl]; exact grownBy_sortedI _⟩

theorem compactI_any {w : World} {base n g cap : Nat} (l : List Int) (h : w.ownsRow base 3 1 (.slice (some ⟨g, 0, none⟩) n cap) n (II l)) (hn2 : n <= 1000000000) :
  Calls Tryz.prog 53 #[.slice (some ⟨g, 0, none⟩) n cap] w fun e w' => e = .returned (.slice (some ⟨g, 0, none⟩) (Lib.compact l).length cap) /\
   w'.ownsRow base 3 1 (.slice (some ⟨g, 0, none⟩) (Lib.compact l).length cap) (Lib.compact l).length (II (Lib.compact l)) /\ w.grownBy w' (some g) := by
 have hl : l.length = n := by have := h.1; unfold II at this; simpa using this
 subst hl
 obtain ⟨hbase, cur, hb, h1, h2, h3, h4⟩ := own_some h
 have hc := Any.slices_Compact_int Tryz.lays2n20 g 0 cap l w (holds_of_blockI hb (by simpa [II] using h4)) (by omega) h1
 refine hc.mono ?_
 rintro e w' ⟨rfl, q, rfl⟩
 have hk := compact_len l
 have hg := grownBy_sortedI (w := w) (g := g) (n := q) (os := #[]) (Lib.compact l ++ List.replicate (l.length - (Lib.compact l).length) 0).toArray
 have ho := ownsRow_sortedI (w := w) (n := q) (os := #[]) (ss := l) (ts := Lib.compact l ++ List.replicate (l.length - (Lib.compact l).length) 0) (by rw [List.length_append, List.length_replicate]; omega) hbase hb h1 h2 h3
 rw [Sort.grow_empty] at hg ho
 refine ⟨rfl, ?_, hg⟩
 have h5 := own_pre ho (Lib.compact l).length hk
 rw [List.map_append, List.take_append_of_le_length (by simp), List.take_of_length_le (by simp)] at h5
 exact h5

theorem look_impl (A : Option Addr) (n c : Nat) (ds : List EntD) (hz : ∀ e ∈ ds, e.s.size <= 2000000) (hn : n <= 9223372036854775807) (s : ByteArray) (hs : s.size <= 2000000) (w : World) (hT : Tab w) (hr : Reads w w.heap.size 4 A n (ES ds)) :
  Calls Tryz.prog 153 #[.slice A n c, .string s] w fun e w' => EntPost (lookP ds s) e /\ Below w.heap.size w w' := by
 have hl : ds.length = n := by have := hr.1; rw [ES_length] at this; omega
 have Hr := Lib.hid hr
 have Hz := Lib.hid hz
 have HL := Lib.hid hl
 have HT := Lib.hid hT
 clear hT
 clear hr hz hl
 have hR0 := Lib.hid ((Hr.out.below (belA (bel0 w) (.cells #[.int .i64 0, .int .i64 0, .string ⟨#[]⟩, .int .i64 0] 38))).more (by simp : w.heap.size <= (w.alloc (.cells #[.int .i64 0, .int .i64 0, .string ⟨#[]⟩, .int .i64 0] 38)).heap.size))
 rcases hok : dirOkB ds with _ | _
 ·have Hf := Lib.hid (lookP_bad (s := s) hok)
  have Hok := Lib.hid hok
  clear hok
  go_enter Tryz.func153, Tryz.ntmps153
  go_wp2_with fail
  refine (entAt_impl A n c ds Hz.out hn s hs _ (HT.out.al _) hR0.out).mono ?_
  rintro e w1 ⟨r, rfl, hat, hb1⟩
  have hB := (Blk.new' w 38 #[.int .i64 0, .int .i64 0, .string ⟨#[]⟩, .int .i64 0] w.heap.size).below hb1 (by simp)
  have b1 := belN (belA (bel0 w) _) hb1
  rcases at_neg hat with rfl | ⟨k, hk, rfl⟩
  ·clear hat
   obtain ⟨c0, c1, c2, c3⟩ := hB.g4
   obtain ⟨f0, f1, f2, f3⟩ := hB.f4
   have hlt := hB.lt
   go_wp2
   refine bodyPost_ret (v := .tuple #[.agg #[.int .i64 0, .int .i64 0, .string ⟨#[]⟩, .int .i64 0], .bool false]) (by simp [results, Tryz.results153, go_sem, c0, c1, c2, c3]) rfl ⟨entPost_end Hf.out rfl, ?_⟩
   repeat (first | exact b1 | apply Below.drew | refine belA ?_ _ | refine belC ?_ _ _ (by omega) _)
  ·clear hat
   have q0 : (0 : Int) <= ↑k := by omega
   go_wp2_with fail
   refine (dirOk_impl A n c ds Hz.out _ ((HT.out.al _).bl hb1) hn ((hR0.out.below hb1).more hb1.size)).mono ?_
   rintro e w2 ⟨rfl, hb2⟩
   rw [Hok.out]
   have hB2 := hB.below hb2 hB.lt
   have b2 := belN b1 hb2
   obtain ⟨c0, c1, c2, c3⟩ := hB2.g4
   obtain ⟨f0, f1, f2, f3⟩ := hB2.f4
   have hlt := hB2.lt
   go_wp2
   refine bodyPost_ret (v := .tuple #[.agg #[.int .i64 0, .int .i64 0, .string ⟨#[]⟩, .int .i64 0], .bool false]) (by simp [results, Tryz.results153, go_sem, c0, c1, c2, c3]) rfl ⟨entPost_end Hf.out rfl, ?_⟩
   repeat (first | exact b2 | apply Below.drew | refine belA ?_ _ | refine belC ?_ _ _ (by omega) _)
 ·have Hok := Lib.hid hok
  clear hok
  go_enter Tryz.func153, Tryz.ntmps153
  go_wp2_with fail
  refine (entAt_impl A n c ds Hz.out hn s hs _ (HT.out.al _) hR0.out).mono ?_
  rintro e w1 ⟨r, rfl, hat, hb1⟩
  have hB := (Blk.new' w 38 #[.int .i64 0, .int .i64 0, .string ⟨#[]⟩, .int .i64 0] w.heap.size).below hb1 (by simp)
  have b1 := belN (belA (bel0 w) _) hb1
  rcases at_idx Hok.out hat with ⟨rfl, hfd⟩ | ⟨k, hk, rfl, hfd⟩
  ·have Hf := Lib.hid (lookP_none Hok.out hfd)
   clear hat hfd
   obtain ⟨c0, c1, c2, c3⟩ := hB.g4
   obtain ⟨f0, f1, f2, f3⟩ := hB.f4
   have hlt := hB.lt
   go_wp2
   refine bodyPost_ret (v := .tuple #[.agg #[.int .i64 0, .int .i64 0, .string ⟨#[]⟩, .int .i64 0], .bool false]) (by simp [results, Tryz.results153, go_sem, c0, c1, c2, c3]) rfl ⟨entPost_end Hf.out rfl, ?_⟩
   repeat (first | exact b1 | apply Below.drew | refine belA ?_ _ | refine belC ?_ _ _ (by omega) _)
  ·clear hat
   have hkn : k < n := by have := HL.out; omega
   have q0 : (0 : Int) <= ↑k := by omega
   go_wp2_with fail
   refine (dirOk_impl A n c ds Hz.out _ ((HT.out.al _).bl hb1) hn ((hR0.out.below hb1).more hb1.size)).mono ?_
   rintro e w2 ⟨rfl, hb2⟩
   rw [Hok.out]
   have hB2 := hB.below hb2 hB.lt
   have b2 := belN b1 hb2
   obtain ⟨hkx, b, o, rfl, hadb, z0, z1, z2, z3⟩ := reads_ent (Hr.out.below b2) (k := k) (by omega)
   have q1 : (↑k : Int) < ↑n := by omega
   obtain ⟨E, hE⟩ : ∃ E, ds[k] = E := ⟨_, rfl⟩
   rw [hE] at z0 z1 z2 z3 hfd
   have Hf := Lib.hid (lookP_some Hok.out hfd)
   have nb : b ≠ w.heap.size := by omega
   clear hE hfd
   obtain ⟨c0, c1, c2, c3⟩ := hB2.g4
   obtain ⟨f0, f1, f2, f3⟩ := hB2.f4
   have hlt := hB2.lt
   have hF := ((((hB2.put 0 (.int .i64 E.h) #[.int .i64 E.h, .int .i64 0, .string ⟨#[]⟩, .int .i64 0] rfl).put 1 (.int .i64 E.i) #[.int .i64 E.h, .int .i64 E.i, .string ⟨#[]⟩, .int .i64 0] rfl).put 2 (.string E.s) #[.int .i64 E.h, .int .i64 E.i, .string E.s, .int .i64 0] rfl).put 3 (.int .i64 E.d) #[.int .i64 E.h, .int .i64 E.i, .string E.s, .int .i64 E.d] rfl)
   have r0 := Lib.hid (hF.get (x := .int .i64 E.h) 0 rfl)
   have r1 := Lib.hid (hF.get (x := .int .i64 E.i) 1 rfl)
   have r2 := Lib.hid (hF.get (x := .string E.s) 2 rfl)
   have r3 := Lib.hid (hF.get (x := .int .i64 E.d) 3 rfl)
   go_wp2
   refine bodyPost_ret (v := .tuple #[.agg #[.int .i64 E.h, .int .i64 E.i, .string E.s, .int .i64 E.d], .bool true]) (by simp [results, Tryz.results153, go_sem, r0.out, r1.out, r2.out, r3.out]) rfl ⟨entPost_end Hf.out rfl, ?_⟩
   repeat (first | exact b2 | apply Below.drew | refine belA ?_ _ | refine belC ?_ _ _ (by omega) _)

end Go.Proofs.YtjjniapamdleoaaGreatDoor
