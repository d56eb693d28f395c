/- Volumes: what is below what and what is right, in plain Lean; volumes in memory; places and links of inodes in both packages. -/
import Derived.Test.YtghgafbfpejinaaGreatDoorQIsPg
import Derived.Test.YtghgafbfpejinaaGreatDoorQDir
import Derived.Deep.RegionHeld3
namespace Go.Proofs.YtghgafbfpejinaaGreatDoor
open Go Go.RowKit

/-- An inode as it is read. -/
structure InoD where
 id : Int
 kd : Int
 ln : Int
 s : ByteArray
 es : List EntD
/-- The place of an inode, or -1. -/
def plc (xs : List InoD) (a : Int) : Int := if xs.findIdx (fun x => x.id == a) < xs.length then (xs.findIdx (fun x => x.id == a) : Nat) else -1
theorem plc_cases (xs : List InoD) (a : Int) : (plc xs a = -1 ∧ ∀ x ∈ xs, x.id ≠ a) ∨ ∃ (k : Nat) (hk : k < xs.length), plc xs a = (k : Int) ∧ xs[k].id = a ∧ ∀ (j : Nat) (hj : j < k), xs[j].id ≠ a := by
 by_cases h : xs.findIdx (fun x => x.id == a) < xs.length
 ·refine .inr ⟨_, h, by unfold plc; rw [if_pos h], by simpa using List.findIdx_getElem (w := h), fun j hj => ?_⟩
  have := List.not_of_lt_findIdx hj
  simpa using this
 ·refine .inl ⟨by unfold plc; rw [if_neg h], ?_⟩
  have h2 : xs.findIdx (fun x => x.id == a) = xs.length := by have := List.findIdx_le_length (xs := xs) (p := fun x => x.id == a); omega
  rw [List.findIdx_eq_length] at h2
  intro x hx; simpa using h2 x hx
theorem plc_bd (xs : List InoD) (a : Int) : -1 ≤ plc xs a ∧ plc xs a < xs.length := by
 rcases plc_cases xs a with ⟨h, _⟩ | ⟨k, hk, h, _⟩ <;> omega
/-- The ids that stand in the inode at a place. -/
def kidsAt (xs : List InoD) (k : Nat) : List Int := match xs[k]? with | none => [] | some x => x.es.map (·.d)
/-- The ids that stand in the inode of an id. -/
def kids (xs : List InoD) (a : Int) : List Int := if plc xs a < 0 then [] else kidsAt xs (plc xs a).toNat
theorem kids_hit {xs : List InoD} {a : Int} {k : Nat} (h : plc xs a = (k : Int)) : kids xs a = kidsAt xs k := by unfold kids; rw [h, if_neg (by omega), Int.toNat_natCast]
/-- What is below an inode. -/
inductive Rch (xs : List InoD) (a : Int) : Int → Prop
 | one {b : Int} : b ∈ kids xs a → Rch xs a b
 | more {b c : Int} : Rch xs a b → c ∈ kids xs b → Rch xs a c

/-! The program's walk: what is found, and what stands in line. -/
structure BInv2 (xs : List InoD) (a q : Int) (ks : List Int) (out queue : List Int) : Prop where
 sound : ∀ y ∈ out, Rch xs a y
 line : ∀ y ∈ queue, y = a ∨ y ∈ out
 here : q = a ∨ q ∈ out
 shut : ∀ y, y = a ∨ y ∈ out → y = q ∨ y ∈ queue ∨ ∀ z ∈ kids xs y, z ∈ out
 done : ∀ z ∈ ks, z ∈ out
 nodup : out.Nodup
theorem BInv2.add {xs : List InoD} {a q e : Int} {ks out queue : List Int} (h : BInv2 xs a q ks out queue) (hk : e ∈ kids xs q) (he : e ∉ out) : BInv2 xs a q (ks ++ [e]) (out ++ [e]) (queue ++ [e]) := by
 refine ⟨fun y hy => ?_, fun y hy => ?_, ?_, fun y hy => ?_, fun z hz => ?_, ?_⟩
 ·rcases List.mem_append.1 hy with hy | hy
  ·exact h.sound y hy
  ·rw [List.mem_singleton.1 hy]
   rcases h.here with rfl | h2
   ·exact .one hk
   ·exact .more (h.sound q h2) hk
 ·rcases List.mem_append.1 hy with hy | hy
  ·rcases h.line y hy with h2 | h2
   ·exact .inl h2
   ·exact .inr (by simp [h2])
  ·exact .inr (by simp [List.mem_singleton.1 hy])
 ·rcases h.here with h2 | h2
  ·exact .inl h2
  ·exact .inr (by simp [h2])
 ·have hy' : y = a ∨ y ∈ out ∨ y = e := by simpa [or_assoc] using hy
  have : (y = a ∨ y ∈ out) ∨ y = e := by
   rcases hy' with h1 | h1 | h1
   ·exact .inl (.inl h1)
   ·exact .inl (.inr h1)
   ·exact .inr h1
  rcases this with h1 | h1
  ·rcases h.shut y h1 with h2 | h2 | h2
   ·exact .inl h2
   ·exact .inr (.inl (by simp [h2]))
   ·exact .inr (.inr fun z hz => by simp [h2 z hz])
  ·exact .inr (.inl (by simp [h1]))
 ·rcases List.mem_append.1 hz with hz | hz
  ·simp [h.done z hz]
  ·simp [List.mem_singleton.1 hz]
 ·rw [List.nodup_append]
  exact ⟨h.nodup, by simp, fun x hx y hy => by rw [List.mem_singleton.1 hy]; rintro rfl; exact he hx⟩
/-- All ids that stand somewhere. -/
def allIds (xs : List InoD) : List Int := xs.flatMap fun x => x.es.map (·.d)
theorem kidsAt_all {xs : List InoD} {k : Nat} {e : Int} (h : e ∈ kidsAt xs k) : e ∈ allIds xs := by
 unfold kidsAt at h
 split at h
 ·cases h
 ·rename_i x hx
  exact List.mem_flatMap.2 ⟨x, List.mem_of_getElem? hx, h⟩
theorem kids_all {xs : List InoD} {a e : Int} (h : e ∈ kids xs a) : e ∈ allIds xs := by
 unfold kids at h
 split at h
 ·cases h
 ·exact kidsAt_all h
theorem Rch.all {xs : List InoD} {a e : Int} (h : Rch xs a e) : e ∈ allIds xs := by
 cases h with
 | one h => exact kids_all h
 | more _ h => exact kids_all h
def mk1 (xs : List InoD) (st : List Bool × List Bool) (e : Int) : List Bool × List Bool := if plc xs e < 0 then st else (st.1.set (plc xs e).toNat true, st.2.set (plc xs e).toNat true)
def mkAt (xs : List InoD) (st : List Bool × List Bool) (i : Nat) : List Bool × List Bool := if st.2.getD i false then (kidsAt xs i).foldl (mk1 xs) st else st
def mkAll (xs : List InoD) (st : List Bool × List Bool) (n : Nat) : List Bool × List Bool := (List.range n).foldl (mkAt xs) st
/-- What stays: both rows as long as the inodes; what is open stands above or is found; what is found is open and below. -/
structure MInv (xs : List InoD) (a : Int) (s : Nat) (st : List Bool × List Bool) : Prop where
 l1 : st.1.length = xs.length
 l2 : st.2.length = xs.length
 open_ : ∀ i : Nat, st.2[i]? = some true → i = s ∨ st.1[i]? = some true
 in_ : ∀ i : Nat, st.1[i]? = some true → st.2[i]? = some true ∧ ∃ b, Rch xs a b ∧ plc xs b = (i : Int)
 here : st.2[s]? = some true
def Le (a b : List Bool) : Prop := ∀ i : Nat, a[i]? = some true → b[i]? = some true
theorem mk1_le (xs : List InoD) (st : List Bool × List Bool) (e : Int) : Le st.1 (mk1 xs st e).1 ∧ Le st.2 (mk1 xs st e).2 := by
 unfold mk1
 split
 ·exact ⟨fun _ h => h, fun _ h => h⟩
 ·refine ⟨fun i h => ?_, fun i h => ?_⟩ <;>
  ·simp only [List.getElem?_set]
   split
   ·rename_i h2; subst h2
    rw [if_pos (List.getElem?_eq_some_iff.1 h).1]
   ·exact h
theorem MInv.mk1 {xs : List InoD} {a : Int} {s : Nat} {st : List Bool × List Bool} (h : MInv xs a s st) (hs : plc xs a = (s : Int)) {i : Nat} (ho : st.2[i]? = some true) {e : Int} (he : e ∈ kidsAt xs i) : MInv xs a s (mk1 xs st e) := by
 have hle := mk1_le xs st e
 unfold _root_.Go.Proofs.YtghgafbfpejinaaGreatDoor.mk1 at hle ⊢
 by_cases hp : plc xs e < 0
 ·rw [if_pos hp]; exact h
 ·rw [if_neg hp] at hle ⊢
  have hlt : (plc xs e).toNat < xs.length := by have := plc_bd xs e; omega
  have hr : Rch xs a e := by
   rcases h.open_ i ho with rfl | h1
   ·exact .one (by rw [kids_hit hs]; exact he)
   ·obtain ⟨_, b, hb, hb2⟩ := h.in_ i h1
    exact .more hb (by rw [kids_hit hb2]; exact he)
  refine ⟨by simp [h.l1], by simp [h.l2], fun j hj => ?_, fun j hj => ?_, hle.2 _ h.here⟩
  ·simp only [List.getElem?_set] at hj ⊢
   by_cases h2 : (plc xs e).toNat = j
   ·rw [if_pos h2]; exact .inr (by rw [if_pos (by rw [h.l1]; omega)])
   ·rw [if_neg h2] at hj ⊢; exact h.open_ j hj
  ·simp only [List.getElem?_set] at hj ⊢
   by_cases h2 : (plc xs e).toNat = j
   ·rw [if_pos h2, if_pos (by rw [h.l2]; omega)]; exact ⟨rfl, e, hr, by omega⟩
   ·rw [if_neg h2] at hj ⊢; exact h.in_ j hj
theorem MInv.fold {xs : List InoD} {a : Int} {s : Nat} (hs : plc xs a = (s : Int)) {i : Nat} : ∀ (ks : List Int) (st : List Bool × List Bool), MInv xs a s st → st.2[i]? = some true → (∀ e ∈ ks, e ∈ kidsAt xs i) → MInv xs a s (ks.foldl (_root_.Go.Proofs.YtghgafbfpejinaaGreatDoor.mk1 xs) st)
 | [], _, h, _, _ => h
 | k :: ks, st, h, ho, hk => MInv.fold hs ks _ (h.mk1 hs ho (hk k (by simp))) ((mk1_le xs st k).2 i ho) fun e he => hk e (by simp [he])
theorem getD_iff {l : List Bool} {i : Nat} : l.getD i false = true ↔ l[i]? = some true := by
 rw [List.getD_eq_getElem?_getD]
 cases l[i]? with
 | none => simp
 | some b => cases b <;> simp
theorem MInv.at_ {xs : List InoD} {a : Int} {s : Nat} {st : List Bool × List Bool} (h : MInv xs a s st) (hs : plc xs a = (s : Int)) (i : Nat) : MInv xs a s (mkAt xs st i) := by
 unfold mkAt; split
 ·rename_i ho; exact MInv.fold hs _ st h (getD_iff.1 ho) fun _ h => h
 ·exact h
theorem mkAll_succ (xs : List InoD) (st : List Bool × List Bool) (n : Nat) : mkAll xs st (n + 1) = mkAt xs (mkAll xs st n) n := by unfold mkAll; rw [List.range_succ, List.foldl_append]; rfl
theorem MInv.all {xs : List InoD} {a : Int} {s : Nat} {st : List Bool × List Bool} (h : MInv xs a s st) (hs : plc xs a = (s : Int)) : ∀ n, MInv xs a s (mkAll xs st n)
 | 0 => h
 | n + 1 => by rw [mkAll_succ]; exact (h.all hs n).at_ hs n
section
variable {nx : Int} {xs : List InoD}
end

section
variable {nx : Int} {xs : List InoD}
end
section
variable {nx : Int} {xs : List InoD}
end

def InoD.val (x : InoD) (v : Value) : Value := .agg #[.int .i64 x.id, .int .i64 x.kd, .int .i64 x.ln, .string x.s, v]
/-- Inodes as cells. -/
def IC : List InoD → List Value → List Value
 | x :: xs, v :: vs => .int .i64 x.id :: .int .i64 x.kd :: .int .i64 x.ln :: .string x.s :: v :: IC xs vs
 | _, _ => []
theorem IC_get : ∀ (xs : List InoD) (vs : List Value) (k : Nat) (h : k < xs.length) (v : Value), vs[k]? = some v → (IC xs vs)[k * 5]? = some (.int .i64 xs[k].id) ∧ (IC xs vs)[k * 5 + 1]? = some (.int .i64 xs[k].kd) ∧ (IC xs vs)[k * 5 + 2]? = some (.int .i64 xs[k].ln) ∧ (IC xs vs)[k * 5 + 3]? = some (.string xs[k].s) ∧ (IC xs vs)[k * 5 + 4]? = some v
 | x :: xs, u :: vs, 0, _, v, hv => by simp at hv; subst hv; exact ⟨rfl, rfl, rfl, rfl, rfl⟩
 | x :: xs, u :: vs, k + 1, h, v, hv => by
  have := IC_get xs vs k (by simpa using h) v (by simpa using hv)
  rw [show (k + 1) * 5 = k * 5 + 1 + 1 + 1 + 1 + 1 by omega]
  simpa [IC] using this
 | x :: xs, [], k, _, v, hv => by simp at hv
theorem own_far {w : World} {base : Nat} {e : TypeId} {size n g c : Nat} {xs : List Value} {p : Addr} {u : Value} (h : w.ownsRow base e size (.slice (some ⟨g, 0, none⟩) n c) n xs) (hg : g ≠ p.block) : (w.setCell p u).ownsRow base e size (.slice (some ⟨g, 0, none⟩) n c) n xs :=
 own_same h (Below.heap_setCell w p u g hg)

/-- Inodes as they lie in memory. -/
def VAt (w : World) (B : Nat) (A : Option Addr) (n : Nat) (xs : List InoD) : Prop :=
 ∃ vs : List Value, Reads w B 5 A n (IC xs vs) ∧ xs.length = n ∧ vs.length = n ∧ ∀ (i : Nat) (hi : i < xs.length), ∃ A' c, vs[i]? = some (.slice A' xs[i].es.length c) ∧ Reads w B 4 A' xs[i].es.length (ES xs[i].es)
section
variable {w w' : World} {B B' : Nat} {A : Option Addr} {n : Nat} {xs : List InoD}
theorem VAt.below (h : VAt w B A n xs) (hb : Below B w w') : VAt w' B A n xs := by
 obtain ⟨vs, h1, h2, h2', h3⟩ := h
 refine ⟨vs, h1.below hb, h2, h2', fun i hi => ?_⟩
 obtain ⟨A', c, h4, h5⟩ := h3 i hi
 exact ⟨A', c, h4, h5.below hb⟩
theorem VAt.more (h : VAt w B A n xs) (hB : B ≤ B') : VAt w B' A n xs := by
 obtain ⟨vs, h1, h2, h2', h3⟩ := h
 refine ⟨vs, h1.more hB, h2, h2', fun i hi => ?_⟩
 obtain ⟨A', c, h4, h5⟩ := h3 i hi
 exact ⟨A', c, h4, h5.more hB⟩
theorem VAt.at_ (h : VAt w B A n xs) {k : Nat} (hk : k < n) :
  ∃ (hk' : k < xs.length) (b o : Nat) (A' : Option Addr) (c : Nat), A = some ⟨b, o, none⟩ ∧ b < B ∧ w.cell? ⟨b, o + k * 5, none⟩ = some (.int .i64 xs[k].id) ∧ w.cell? ⟨b, o + k * 5 + 1, none⟩ = some (.int .i64 xs[k].kd) ∧ w.cell? ⟨b, o + k * 5 + 2, none⟩ = some (.int .i64 xs[k].ln) ∧ w.cell? ⟨b, o + k * 5 + 3, none⟩ = some (.string xs[k].s) ∧ w.cell? ⟨b, o + k * 5 + 4, none⟩ = some (.slice A' xs[k].es.length c) ∧ Reads w B 4 A' xs[k].es.length (ES xs[k].es) := by
 obtain ⟨vs, h1, h2, h2', h3⟩ := h
 have hk' : k < xs.length := by omega
 obtain ⟨A', c, h4, h5⟩ := h3 k hk'
 obtain ⟨ad, rfl, hb, hc⟩ := h1.2 (by omega)
 obtain ⟨g0, g1, g2, g3, g4⟩ := IC_get xs vs k hk' _ h4
 obtain ⟨A0, c0, hv0, _⟩ := h3 0 (by omega)
 obtain ⟨e0, _⟩ := IC_get xs vs 0 (by omega) _ hv0
 have hc0 := hc 0 _ e0
 have ha0 : ad.add 0 = ad := by simp [Addr.add]
 rw [ha0] at hc0
 obtain ⟨b, o, rfl⟩ := flat_addr hc0
 have ha : ∀ j, (Addr.add ⟨b, o, none⟩ j) = ⟨b, o + j, none⟩ := fun j => by unfold Addr.add; split <;> simp_all
 have z : ∀ j u, (IC xs vs)[j]? = some u → w.cell? ⟨b, o + j, none⟩ = some u := fun j u hu => by rw [← ha]; exact hc j u hu
 refine ⟨hk', b, o, A', c, rfl, hb, z _ _ g0, ?_, ?_, ?_, ?_, h5⟩
 ·rw [show o + k * 5 + 1 = o + (k * 5 + 1) by omega]; exact z _ _ g1
 ·rw [show o + k * 5 + 2 = o + (k * 5 + 2) by omega]; exact z _ _ g2
 ·rw [show o + k * 5 + 3 = o + (k * 5 + 3) by omega]; exact z _ _ g3
 ·rw [show o + k * 5 + 4 = o + (k * 5 + 4) by omega]; exact z _ _ g4
end

/-- The rows of entries of inodes, in memory of a call's own. -/
def IRows (w : World) (lo : Nat) (xs : List InoD) (vs : List Value) : Prop :=
 vs.length = xs.length ∧ ∀ (i : Nat) (hi : i < xs.length), ∃ g, vs[i]? = some (.slice (some ⟨g, 0, none⟩) xs[i].es.length xs[i].es.length) ∧ w.ownsRow lo 66 4 (.slice (some ⟨g, 0, none⟩) xs[i].es.length xs[i].es.length) xs[i].es.length (ES xs[i].es)
theorem IRows.below {w w' : World} {lo : Nat} {xs : List InoD} {vs : List Value} (h : IRows w lo xs vs) (hb : Below w.heap.size w w') : IRows w' lo xs vs :=
 ⟨h.1, fun i hi => by obtain ⟨g, h1, h2⟩ := h.2 i hi; exact ⟨g, h1, own_below h2 hb (Nat.le_refl _)⟩⟩
theorem IRows.far {w : World} {lo : Nat} {xs : List InoD} {vs : List Value} (h : IRows w lo xs vs) (g k : Nat) (hg : g < lo) (u : Value) : IRows (w.setCell ⟨g, k, none⟩ u) lo xs vs :=
 ⟨h.1, fun i hi => by obtain ⟨g', h1, h2⟩ := h.2 i hi; exact ⟨g', h1, own_far h2 (by have := (own_lt h2).1; show g' ≠ g; omega)⟩⟩
/-- A volume: its next id and its inodes. -/
structure VolD where
 nx : Int
 xs : List InoD
/-- A value is this volume. -/
def IsVol (w : World) (v : Value) (V : VolD) : Prop := ∃ A c, v = .agg #[.int .i64 V.nx, .slice A V.xs.length c] ∧ VAt w w.heap.size A V.xs.length V.xs
theorem IsVol.next {w w' : World} {v : Value} {V : VolD} (h : IsVol w v V) (hb : Below w.heap.size w w') : IsVol w' v V := by
 obtain ⟨A, c, h1, h2⟩ := h
 exact ⟨A, c, h1, (h2.below hb).more hb.size⟩
/-- .. the slice of its inodes with its capacity. -/
def IsVolC (w : World) (v : Value) (V : VolD) : Prop := ∃ A c, v = .agg #[.int .i64 V.nx, .slice A V.xs.length c] ∧ VAt w w.heap.size A V.xs.length V.xs ∧ V.xs.length ≤ c
theorem IsVolC.is {w : World} {v : Value} {V : VolD} (h : IsVolC w v V) : IsVol w v V := by
 obtain ⟨A, c, h1, h2, _⟩ := h
 exact ⟨A, c, h1, h2⟩
theorem IsVolC.next {w w' : World} {v : Value} {V : VolD} (h : IsVolC w v V) (hb : Below w.heap.size w w') : IsVolC w' v V := by
 obtain ⟨A, c, h1, h2, h3⟩ := h
 exact ⟨A, c, h1, (h2.below hb).more hb.size, h3⟩
theorem VAt.next {w w' : World} {A : Option Addr} {n : Nat} {xs : List InoD} (h : VAt w w.heap.size A n xs) (hb : Below w.heap.size w w') : VAt w' w'.heap.size A n xs := (h.below hb).more hb.size

end Go.Proofs.YtghgafbfpejinaaGreatDoor
