/- Volumes: what is below what and what is right, in plain Lean; volumes in memory; places and links of inodes in both packages. -/
import Derived.Test.YtjjniapamdleoaaGreatDoorRCEnts
import Derived.Test.YtjjniapamdleoaaGreatDoorRCDir
import Derived.Test.YtjjniapamdleoaaGreatDoorRCIsPg
import Derived.Deep.RegionHeld3
namespace Go.Proofs.YtjjniapamdleoaaGreatDoor
open Go Go.RowKit
set_option maxHeartbeats 2000000
set_option maxRecDepth 100000

/-- An inode as it is read. -/
structure InoD where
 id : Int
 kd : Int
 ln : Int
 s : ByteArray
 es : List EntD
/-- The place of an inode, or -1. -/
def plc (xs : List InoD) (a : Int) : Int := if xs.findIdx (fun x => x.id == a) < xs.length then (xs.findIdx (fun x => x.id == a) : Nat) else -1
theorem plc_hit {xs : List InoD} {a : Int} {k : Nat} (hk : k < xs.length) (h : xs[k].id = a) (hn : ∀ (j : Nat) (hj : j < k), xs[j].id ≠ a) : plc xs a = (k : Int) := by
 have h1 : xs.findIdx (fun x => x.id == a) = k := by
  rw [List.findIdx_eq hk]
  exact ⟨by simpa using h, fun j hj => by simpa using hn j hj⟩
 unfold plc; rw [h1, if_pos hk]
theorem plc_miss {xs : List InoD} {a : Int} (h : ∀ x ∈ xs, x.id ≠ a) : plc xs a = -1 := by
 have h1 : xs.findIdx (fun x => x.id == a) = xs.length := by
  rw [List.findIdx_eq_length]; intro x hx; simpa using h x hx
 unfold plc; rw [h1, if_neg (by omega)]
theorem plc_cases (xs : List InoD) (a : Int) : (plc xs a = -1 /\ ∀ x ∈ xs, x.id ≠ a) ∨ ∃ (k : Nat) (hk : k < xs.length), plc xs a = (k : Int) /\ xs[k].id = a /\ ∀ (j : Nat) (hj : j < k), xs[j].id ≠ a := by
 by_cases h : xs.findIdx (fun x => x.id == a) < xs.length
 ·refine .inr ⟨_, h, by unfold plc; rw [if_pos h], by simpa using List.findIdx_getElem (w := h), fun j hj => ?_⟩
  have := List.not_of_lt_findIdx hj
  simpa using this
 ·refine .inl ⟨by unfold plc; rw [if_neg h], ?_⟩
  have h2 : xs.findIdx (fun x => x.id == a) = xs.length := by have := List.findIdx_le_length (xs := xs) (p := fun x => x.id == a); omega
  rw [List.findIdx_eq_length] at h2
  intro x hx; simpa using h2 x hx
theorem plc_bd (xs : List InoD) (a : Int) : -1 <= plc xs a /\ plc xs a < xs.length := by
 rcases plc_cases xs a with ⟨h, _⟩ | ⟨k, hk, h, _⟩ <;> omega
theorem plc_lt {xs : List InoD} {a : Int} (h : 0 <= plc xs a) : ∃ (k : Nat) (hk : k < xs.length), plc xs a = (k : Int) /\ xs[k].id = a := by
 rcases plc_cases xs a with ⟨h1, _⟩ | ⟨k, hk, h1, h2, _⟩
 ·omega
 ·exact ⟨k, hk, h1, h2⟩

/-- The ids that stand in the inode at a place. -/
def kidsAt (xs : List InoD) (k : Nat) : List Int := match xs[k]? with | none => [] | some x => x.es.map (·.d)
theorem kidsAt_get {xs : List InoD} {k : Nat} (hk : k < xs.length) : kidsAt xs k = xs[k].es.map (·.d) := by unfold kidsAt; rw [List.getElem?_eq_getElem hk]
/-- The ids that stand in the inode of an id. -/
def kids (xs : List InoD) (a : Int) : List Int := if plc xs a < 0 then [] else kidsAt xs (plc xs a).toNat
theorem kids_miss {xs : List InoD} {a : Int} (h : plc xs a < 0) : kids xs a = [] := by unfold kids; rw [if_pos h]
theorem kids_hit {xs : List InoD} {a : Int} {k : Nat} (h : plc xs a = (k : Int)) : kids xs a = kidsAt xs k := by unfold kids; rw [h, if_neg (by omega), Int.toNat_natCast]
/-- What is below an inode. -/
inductive Rch (xs : List InoD) (a : Int) : Int -> Prop
 | one {b : Int} : b ∈ kids xs a -> Rch xs a b
 | more {b c : Int} : Rch xs a b -> c ∈ kids xs b -> Rch xs a c

/-! The program's walk: what is found, and what stands in line. -/
/-- All is sound; what does not stand in line is gone through (save of q: of that the first ones). -/
structure BInv (xs : List InoD) (a : Int) (out queue : List Int) : Prop where
 sound : ∀ y ∈ out, Rch xs a y
 line : ∀ y ∈ queue, y = a ∨ y ∈ out
 shut : ∀ y, y = a ∨ y ∈ out -> y ∈ queue ∨ ∀ z ∈ kids xs y, z ∈ out
 nodup : out.Nodup
structure BInv2 (xs : List InoD) (a q : Int) (ks : List Int) (out queue : List Int) : Prop where
 sound : ∀ y ∈ out, Rch xs a y
 line : ∀ y ∈ queue, y = a ∨ y ∈ out
 here : q = a ∨ q ∈ out
 shut : ∀ y, y = a ∨ y ∈ out -> y = q ∨ y ∈ queue ∨ ∀ z ∈ kids xs y, z ∈ out
 done : ∀ z ∈ ks, z ∈ out
 nodup : out.Nodup
theorem BInv.start (xs : List InoD) (a : Int) : BInv xs a [] [a] := by
 refine ⟨fun _ h => ?_, fun y h => .inl (by simpa using h), fun y h => .inl ?_, List.nodup_nil⟩
 ·cases h
 ·rcases h with h | h
  ·simp [h]
  ·cases h
theorem BInv.pop {xs : List InoD} {a q : Int} {out queue : List Int} (h : BInv xs a out (q :: queue)) : BInv2 xs a q [] out queue :=
 ⟨h.sound, fun y hy => h.line y (by simp [hy]), h.line q (by simp), fun y hy => by
  rcases h.shut y hy with h1 | h1
  ·rcases List.mem_cons.1 h1 with h1 | h1
   ·exact .inl h1
   ·exact .inr (.inl h1)
  ·exact .inr (.inr h1), fun _ h => (by cases h), h.nodup⟩
theorem BInv2.skip {xs : List InoD} {a q e : Int} {ks out queue : List Int} (h : BInv2 xs a q ks out queue) (he : e ∈ out) : BInv2 xs a q (ks ++ [e]) out queue :=
 ⟨h.sound, h.line, h.here, h.shut, fun z hz => by
  rcases List.mem_append.1 hz with hz | hz
  ·exact h.done z hz
  ·rw [List.mem_singleton.1 hz]; exact he, h.nodup⟩
theorem BInv2.add {xs : List InoD} {a q e : Int} {ks out queue : List Int} (h : BInv2 xs a q ks out queue) (hk : e ∈ kids xs q) (he : e ∉ out) : BInv2 xs a q (ks ++ [e]) (out ++ [e]) (queue ++ [e]) := by
 refine ⟨fun y hy => ?_, fun y hy => ?_, ?_, fun y hy => ?_, fun z hz => ?_, ?_⟩
 ·rcases List.mem_append.1 hy with hy | hy
  ·exact h.sound y hy
  ·rw [List.mem_singleton.1 hy]
   rcases h.here with rfl | h2
   ·exact .one hk
   ·exact .more (h.sound q h2) hk
 ·rcases List.mem_append.1 hy with hy | hy
  ·rcases h.line y hy with h2 | h2
   ·exact .inl h2
   ·exact .inr (by simp [h2])
  ·exact .inr (by simp [List.mem_singleton.1 hy])
 ·rcases h.here with h2 | h2
  ·exact .inl h2
  ·exact .inr (by simp [h2])
 ·have hy' : y = a ∨ y ∈ out ∨ y = e := by simpa [or_assoc] using hy
  have : (y = a ∨ y ∈ out) ∨ y = e := by
   rcases hy' with h1 | h1 | h1
   ·exact .inl (.inl h1)
   ·exact .inl (.inr h1)
   ·exact .inr h1
  rcases this with h1 | h1
  ·rcases h.shut y h1 with h2 | h2 | h2
   ·exact .inl h2
   ·exact .inr (.inl (by simp [h2]))
   ·exact .inr (.inr fun z hz => by simp [h2 z hz])
  ·exact .inr (.inl (by simp [h1]))
 ·rcases List.mem_append.1 hz with hz | hz
  ·simp [h.done z hz]
  ·simp [List.mem_singleton.1 hz]
 ·rw [List.nodup_append]
  exact ⟨h.nodup, by simp, fun x hx y hy => by rw [List.mem_singleton.1 hy]; rintro rfl; exact he hx⟩
theorem BInv2.close {xs : List InoD} {a q : Int} {out queue : List Int} (h : BInv2 xs a q (kids xs q) out queue) : BInv xs a out queue :=
 ⟨h.sound, h.line, fun y hy => by
  rcases h.shut y hy with rfl | h1 | h1
  ·exact .inr h.done
  ·exact .inl h1
  ·exact .inr h1, h.nodup⟩
theorem BInv2.close' {xs : List InoD} {a q : Int} {out queue : List Int} (h : BInv2 xs a q [] out queue) (hk : kids xs q = []) : BInv xs a out queue := BInv2.close (q := q) (by rw [hk]; exact h)
theorem BInv.fin {xs : List InoD} {a : Int} {out : List Int} (h : BInv xs a out []) : ∀ y, y ∈ out ↔ Rch xs a y := by
 have hs : ∀ y, y = a ∨ y ∈ out -> ∀ z ∈ kids xs y, z ∈ out := fun y hy => by
  rcases h.shut y hy with h1 | h1
  ·cases h1
  ·exact h1
 refine fun y => ⟨h.sound y, fun hr => ?_⟩
 induction hr with
 | one hb => exact hs a (.inl rfl) _ hb
 | more _ hc ih => exact hs _ (.inr ih) _ hc
/-- All ids that stand somewhere. -/
def allIds (xs : List InoD) : List Int := xs.flatMap fun x => x.es.map (·.d)
theorem row_all {xs : List InoD} {x : InoD} (h : x ∈ xs) : x.es.length <= (allIds xs).length := by
 unfold allIds
 induction xs with
 | nil => cases h
 | cons y ys ih =>
  rw [List.flatMap_cons, List.length_append, List.length_map]
  rcases List.mem_cons.1 h with rfl | h
  ·omega
  ·have := ih h; omega
theorem kidsAt_all {xs : List InoD} {k : Nat} {e : Int} (h : e ∈ kidsAt xs k) : e ∈ allIds xs := by
 unfold kidsAt at h
 split at h
 ·cases h
 ·rename_i x hx
  exact List.mem_flatMap.2 ⟨x, List.mem_of_getElem? hx, h⟩
theorem kids_all {xs : List InoD} {a e : Int} (h : e ∈ kids xs a) : e ∈ allIds xs := by
 unfold kids at h
 split at h
 ·cases h
 ·exact kidsAt_all h
theorem Rch.all {xs : List InoD} {a e : Int} (h : Rch xs a e) : e ∈ allIds xs := by
 cases h with
 | one h => exact kids_all h
 | more _ h => exact kids_all h
theorem nodup_le : ∀ (l m : List Int), l.Nodup -> (∀ x ∈ l, x ∈ m) -> l.length <= m.length
 | [], _, _, _ => by simp
 | x :: l, m, hn, hs => by
  have hx : x ∈ m := hs x (by simp)
  have h2 := nodup_le l (m.erase x) (List.nodup_cons.1 hn).2 fun y hy => by
   have hne : y ≠ x := by rintro rfl; exact (List.nodup_cons.1 hn).1 hy
   exact (List.mem_erase_of_ne hne).2 (hs y (by simp [hy]))
  rw [List.length_erase_of_mem hx] at h2
  have : 0 < m.length := List.length_pos_of_mem hx
  rw [List.length_cons]; omega
theorem BInv.len {xs : List InoD} {a : Int} {out queue : List Int} (h : BInv xs a out queue) : out.length <= (allIds xs).length := nodup_le _ _ h.nodup fun x hx => (h.sound x hx).all
theorem BInv2.len {xs : List InoD} {a q : Int} {ks out queue : List Int} (h : BInv2 xs a q ks out queue) : out.length <= (allIds xs).length := nodup_le _ _ h.nodup fun x hx => (h.sound x hx).all

/-! The reference's walk: two rows of truths, gone over as often as there are inodes. -/
def mk1 (xs : List InoD) (st : List Bool × List Bool) (e : Int) : List Bool × List Bool := if plc xs e < 0 then st else (st.1.set (plc xs e).toNat true, st.2.set (plc xs e).toNat true)
def mkAt (xs : List InoD) (st : List Bool × List Bool) (i : Nat) : List Bool × List Bool := if st.2.getD i false then (kidsAt xs i).foldl (mk1 xs) st else st
def mkAll (xs : List InoD) (st : List Bool × List Bool) (n : Nat) : List Bool × List Bool := (List.range n).foldl (mkAt xs) st
def mkR (xs : List InoD) (st : List Bool × List Bool) : Nat -> List Bool × List Bool
 | 0 => st
 | r + 1 => mkAll xs (mkR xs st r) xs.length
/-- The places below an inode. -/
def belowB (xs : List InoD) (a : Int) : List Bool :=
 if plc xs a < 0 then List.replicate xs.length false else (mkR xs (List.replicate xs.length false, (List.replicate xs.length false).set (plc xs a).toNat true) xs.length).1

/-- What stays: both rows as long as the inodes; what is open stands above or is found; what is found is open and below. -/
structure MInv (xs : List InoD) (a : Int) (s : Nat) (st : List Bool × List Bool) : Prop where
 l1 : st.1.length = xs.length
 l2 : st.2.length = xs.length
 open_ : ∀ i : Nat, st.2[i]? = some true -> i = s ∨ st.1[i]? = some true
 in_ : ∀ i : Nat, st.1[i]? = some true -> st.2[i]? = some true /\ ∃ b, Rch xs a b /\ plc xs b = (i : Int)
 here : st.2[s]? = some true
def Le (a b : List Bool) : Prop := ∀ i : Nat, a[i]? = some true -> b[i]? = some true
theorem mk1_le (xs : List InoD) (st : List Bool × List Bool) (e : Int) : Le st.1 (mk1 xs st e).1 /\ Le st.2 (mk1 xs st e).2 := by
 unfold mk1
 split
 ·exact ⟨fun _ h => h, fun _ h => h⟩
 ·refine ⟨fun i h => ?_, fun i h => ?_⟩ <;>
  ·simp only [List.getElem?_set]
   split
   ·rename_i h2; subst h2
    rw [if_pos (List.getElem?_eq_some_iff.1 h).1]
   ·exact h
theorem MInv.mk1 {xs : List InoD} {a : Int} {s : Nat} {st : List Bool × List Bool} (h : MInv xs a s st) (hs : plc xs a = (s : Int)) {i : Nat} (ho : st.2[i]? = some true) {e : Int} (he : e ∈ kidsAt xs i) : MInv xs a s (mk1 xs st e) := by
 have hle := mk1_le xs st e
 unfold _root_.Go.Proofs.YtjjniapamdleoaaGreatDoor.mk1 at hle ⊢
 by_cases hp : plc xs e < 0
 ·rw [if_pos hp]; exact h
 ·rw [if_neg hp] at hle ⊢
  have hlt : (plc xs e).toNat < xs.length := by have := plc_bd xs e; omega
  have hr : Rch xs a e := by
   rcases h.open_ i ho with rfl | h1
   ·exact .one (by rw [kids_hit hs]; exact he)
   ·obtain ⟨_, b, hb, hb2⟩ := h.in_ i h1
    exact .more hb (by rw [kids_hit hb2]; exact he)
  refine ⟨by simp [h.l1], by simp [h.l2], fun j hj => ?_, fun j hj => ?_, hle.2 _ h.here⟩
  ·simp only [List.getElem?_set] at hj ⊢
   by_cases h2 : (plc xs e).toNat = j
   ·rw [if_pos h2]; exact .inr (by rw [if_pos (by rw [h.l1]; omega)])
   ·rw [if_neg h2] at hj ⊢; exact h.open_ j hj
  ·simp only [List.getElem?_set] at hj ⊢
   by_cases h2 : (plc xs e).toNat = j
   ·rw [if_pos h2, if_pos (by rw [h.l2]; omega)]; exact ⟨rfl, e, hr, by omega⟩
   ·rw [if_neg h2] at hj ⊢; exact h.in_ j hj
theorem fold_le (xs : List InoD) : ∀ (ks : List Int) (st : List Bool × List Bool), Le st.1 (ks.foldl (mk1 xs) st).1 /\ Le st.2 (ks.foldl (mk1 xs) st).2
 | [], st => ⟨fun _ h => h, fun _ h => h⟩
 | k :: ks, st => by
  have h1 := mk1_le xs st k
  have h2 := fold_le xs ks (mk1 xs st k)
  exact ⟨fun i h => h2.1 i (h1.1 i h), fun i h => h2.2 i (h1.2 i h)⟩
theorem MInv.fold {xs : List InoD} {a : Int} {s : Nat} (hs : plc xs a = (s : Int)) {i : Nat} : ∀ (ks : List Int) (st : List Bool × List Bool), MInv xs a s st -> st.2[i]? = some true -> (∀ e ∈ ks, e ∈ kidsAt xs i) -> MInv xs a s (ks.foldl (_root_.Go.Proofs.YtjjniapamdleoaaGreatDoor.mk1 xs) st)
 | [], _, h, _, _ => h
 | k :: ks, st, h, ho, hk => MInv.fold hs ks _ (h.mk1 hs ho (hk k (by simp))) ((mk1_le xs st k).2 i ho) fun e he => hk e (by simp [he])
theorem fold_all {xs : List InoD} : ∀ (ks : List Int) (st : List Bool × List Bool), st.1.length = xs.length -> ∀ e ∈ ks, ∀ k : Nat, plc xs e = (k : Int) -> (ks.foldl (mk1 xs) st).1[k]? = some true
 | k :: ks, st, hl, e, he, j, hj => by
  have hl2 : (mk1 xs st k).1.length = xs.length := by unfold mk1; split <;> simp [hl]
  rcases List.mem_cons.1 he with rfl | he
  ·refine (fold_le xs ks _).1 j ?_
   have hb := plc_bd xs e
   unfold mk1; rw [if_neg (by omega), hj]
   simp only [Int.toNat_natCast, List.getElem?_set]
   rw [if_pos trivial, if_pos (by omega)]
  ·exact fold_all ks _ hl2 e he j hj
theorem getD_iff {l : List Bool} {i : Nat} : l.getD i false = true ↔ l[i]? = some true := by
 rw [List.getD_eq_getElem?_getD]
 cases l[i]? with
 | none => simp
 | some b => cases b <;> simp
theorem mkAt_le (xs : List InoD) (st : List Bool × List Bool) (i : Nat) : Le st.1 (mkAt xs st i).1 /\ Le st.2 (mkAt xs st i).2 := by
 unfold mkAt; split
 ·exact fold_le xs _ st
 ·exact ⟨fun _ h => h, fun _ h => h⟩
theorem MInv.at_ {xs : List InoD} {a : Int} {s : Nat} {st : List Bool × List Bool} (h : MInv xs a s st) (hs : plc xs a = (s : Int)) (i : Nat) : MInv xs a s (mkAt xs st i) := by
 unfold mkAt; split
 ·rename_i ho; exact MInv.fold hs _ st h (getD_iff.1 ho) fun _ h => h
 ·exact h
theorem mkAll_succ (xs : List InoD) (st : List Bool × List Bool) (n : Nat) : mkAll xs st (n + 1) = mkAt xs (mkAll xs st n) n := by unfold mkAll; rw [List.range_succ, List.foldl_append]; rfl
theorem mkAll_le (xs : List InoD) (st : List Bool × List Bool) : ∀ n, Le st.1 (mkAll xs st n).1 /\ Le st.2 (mkAll xs st n).2
 | 0 => ⟨fun _ h => h, fun _ h => h⟩
 | n + 1 => by
  rw [mkAll_succ]
  have h1 := mkAll_le xs st n
  have h2 := mkAt_le xs (mkAll xs st n) n
  exact ⟨fun i h => h2.1 i (h1.1 i h), fun i h => h2.2 i (h1.2 i h)⟩
theorem MInv.all {xs : List InoD} {a : Int} {s : Nat} {st : List Bool × List Bool} (h : MInv xs a s st) (hs : plc xs a = (s : Int)) : ∀ n, MInv xs a s (mkAll xs st n)
 | 0 => h
 | n + 1 => by rw [mkAll_succ]; exact (h.all hs n).at_ hs n
/-- Whose inode was open when a round began, of that all is found when it ends. -/
theorem mkAll_done {xs : List InoD} {a : Int} {s : Nat} {st : List Bool × List Bool} (h : MInv xs a s st) (hs : plc xs a = (s : Int)) : ∀ n i : Nat, i < n -> st.2[i]? = some true -> ∀ e ∈ kidsAt xs i, ∀ k : Nat, plc xs e = (k : Int) -> (mkAll xs st n).1[k]? = some true
 | n + 1, i, hi, ho, e, he, k, hk => by
  rw [mkAll_succ]
  by_cases h1 : i = n
  ·subst h1
   have ho2 := (mkAll_le xs st i).2 i ho
   unfold mkAt; rw [if_pos (getD_iff.2 ho2)]
   exact fold_all _ _ (h.all hs i).l1 e he k hk
  ·exact (mkAt_le xs _ n).1 k (mkAll_done h hs n i (by omega) ho e he k hk)
theorem MInv.rounds {xs : List InoD} {a : Int} {s : Nat} {st : List Bool × List Bool} (h : MInv xs a s st) (hs : plc xs a = (s : Int)) : ∀ r, MInv xs a s (mkR xs st r)
 | 0 => h
 | r + 1 => (h.rounds hs r).all hs _
/-- All that stands in what is open is found. -/
def Shut (xs : List InoD) (st : List Bool × List Bool) : Prop := ∀ i : Nat, st.2[i]? = some true -> ∀ e ∈ kidsAt xs i, ∀ k : Nat, plc xs e = (k : Int) -> st.1[k]? = some true
def cnt (l : List Bool) : Nat := l.count true
theorem cnt_le : ∀ (a b : List Bool), a.length = b.length -> Le a b -> cnt a <= cnt b /\ (cnt a = cnt b -> a = b)
 | [], [], _, _ => ⟨Nat.le_refl _, fun _ => rfl⟩
 | x :: a, y :: b, hl, h => by
  have h1 := cnt_le a b (by simpa using hl) fun i hi => by have := h (i + 1) (by simpa using hi); simpa using this
  have h0 : x = true -> y = true := fun hx => by have := h 0 (by simpa using hx); simpa using this
  unfold cnt at h1 ⊢
  cases x <;> cases y <;> simp at h0 ⊢
  ·exact h1
  ·exact ⟨by omega, by omega⟩
  ·exact ⟨by omega, fun he => h1.2 (by omega)⟩
theorem shut_open {xs : List InoD} {a : Int} {s : Nat} {st : List Bool × List Bool} (h : MInv xs a s st) (hs : plc xs a = (s : Int)) (h2 : Shut xs st) : Shut xs (mkAll xs st xs.length) := by
 -- a shut state does not turn
 have hin : ∀ i : Nat, st.1[i]? = some true ∨ i = s -> st.2[i]? = some true := fun i hi => by
  rcases hi with hi | rfl
  ·exact (h.in_ i hi).1
  ·exact h.here
 have key : ∀ n, ∀ i : Nat, (mkAll xs st n).1[i]? = some true -> st.1[i]? = some true := by
  intro n
  induction n with
  | zero => exact fun _ h => h
  | succ n ih =>
   rw [mkAll_succ]
   unfold mkAt
   split
   ·rename_i ho
    have ho' := getD_iff.1 ho
    have hn : st.2[n]? = some true := by
     rcases (h.all hs n).open_ n ho' with h1 | h1
     ·exact hin n (.inr h1)
     ·exact hin n (.inl (ih n h1))
    have fk : ∀ (ks : List Int) (t : List Bool × List Bool), (∀ e ∈ ks, e ∈ kidsAt xs n) -> (∀ i : Nat, t.1[i]? = some true -> st.1[i]? = some true) -> ∀ i : Nat, (ks.foldl (mk1 xs) t).1[i]? = some true -> st.1[i]? = some true := by
     intro ks
     induction ks with
     | nil => exact fun t _ ht => ht
     | cons k ks ihk =>
      intro t hk ht
      refine ihk _ (fun e he => hk e (by simp [he])) fun i hi => ?_
      unfold mk1 at hi
      split at hi
      ·exact ht i hi
      ·simp only [List.getElem?_set] at hi
       split at hi
       ·rename_i h3 h4
        have hb := plc_bd xs k
        exact h2 n hn k (hk k (by simp)) i (by omega)
       ·exact ht i hi
    exact fk _ _ (fun _ h => h) ih
   ·exact ih
 intro i hi e he k hk
 have hi2 : st.2[i]? = some true := by
  rcases (h.all hs _).open_ i hi with h1 | h1
  ·exact hin i (.inr h1)
  ·exact hin i (.inl (key _ i h1))
 exact (mkAll_le xs st _).1 k (h2 i hi2 e he k hk)
theorem rounds_shut {xs : List InoD} {a : Int} {s : Nat} {st : List Bool × List Bool} (h : MInv xs a s st) (hs : plc xs a = (s : Int)) : ∀ r, Shut xs (mkR xs st r) ∨ r + 1 <= cnt (mkR xs st r).2
 | 0 => .inr (by
  have : 0 < (mkR xs st 0).2.count true := List.count_pos_iff.2 (List.mem_of_getElem? h.here)
  unfold cnt; omega)
 | r + 1 => by
  have hr := h.rounds hs r
  rcases rounds_shut h hs r with h1 | h1
  ·exact .inl (shut_open hr hs h1)
  ·have ha := hr.all hs xs.length
   have hle := mkAll_le xs (mkR xs st r) xs.length
   have hc := cnt_le _ _ (by rw [hr.l2, ha.l2]) hle.2
   by_cases he : cnt (mkR xs st r).2 = cnt (mkAll xs (mkR xs st r) xs.length).2
   ·left
    have heq := hc.2 he
    intro i hi e hee k hk
    rw [show (mkR xs st (r + 1)) = mkAll xs (mkR xs st r) xs.length from rfl] at hi ⊢
    rw [<- heq] at hi
    exact mkAll_done hr hs _ i (by have := (List.getElem?_eq_some_iff.1 hi).1; rw [hr.l2] at this; exact this) hi e hee k hk
   ·right
    show r + 1 + 1 <= cnt (mkAll xs (mkR xs st r) xs.length).2
    omega
theorem belowB_len (xs : List InoD) (a : Int) : (belowB xs a).length = xs.length := by
 unfold belowB
 rcases plc_cases xs a with ⟨h1, _⟩ | ⟨s, hs, h1, _⟩
 ·rw [if_pos (by omega)]; simp
 ·rw [if_neg (by omega), h1]
  have h0 : MInv xs a s (List.replicate xs.length false, (List.replicate xs.length false).set s true) := by
   refine ⟨by simp, by simp, fun i hi => .inl ?_, fun i hi => ?_, by simp [hs]⟩
   ·simp only [List.getElem?_set, List.getElem?_replicate] at hi
    split at hi
    ·rename_i h; exact h.symm
    ·split at hi <;> cases hi
   ·simp only [List.getElem?_replicate] at hi
    split at hi <;> cases hi
  exact (h0.rounds h1 _).l1
theorem belowB_iff (xs : List InoD) (a : Int) (i : Nat) : (belowB xs a)[i]? = some true ↔ ∃ b, Rch xs a b /\ plc xs b = (i : Int) := by
 unfold belowB
 rcases plc_cases xs a with ⟨h1, _⟩ | ⟨s, hs, h1, _⟩
 ·rw [if_pos (by omega)]
  refine ⟨fun h => ?_, fun ⟨b, hb, _⟩ => ?_⟩
  ·simp only [List.getElem?_replicate] at h
   split at h <;> cases h
  ·exfalso
   have hk : ∀ b, ¬ Rch xs a b := fun b hb => by
    induction hb with
    | one h => rw [kids_miss (by omega)] at h; cases h
    | more _ _ ih => exact ih
   exact hk b hb
 ·rw [if_neg (by omega), h1]
  have h0 : MInv xs a s (List.replicate xs.length false, (List.replicate xs.length false).set s true) := by
   refine ⟨by simp, by simp, fun i hi => .inl ?_, fun i hi => ?_, by simp [hs]⟩
   ·simp only [List.getElem?_set, List.getElem?_replicate] at hi
    split at hi
    ·rename_i h; exact h.symm
    ·split at hi <;> cases hi
   ·simp only [List.getElem?_replicate] at hi
    split at hi <;> cases hi
  rw [Int.toNat_natCast]
  have hf := h0.rounds h1 xs.length
  have hsh : Shut xs (mkR xs (List.replicate xs.length false, (List.replicate xs.length false).set s true) xs.length) := by
   rcases rounds_shut h0 h1 xs.length with h | h
   ·exact h
   ·have : cnt (mkR xs (List.replicate xs.length false, (List.replicate xs.length false).set s true) xs.length).2 <= xs.length := by
     have h3 := List.count_le_length (a := true) (l := (mkR xs (List.replicate xs.length false, (List.replicate xs.length false).set s true) xs.length).2)
     rw [hf.l2] at h3; exact h3
    omega
  refine ⟨fun h => (hf.in_ i h).2, fun ⟨b, hb, hp⟩ => ?_⟩
  induction hb generalizing i with
  | one hk => rw [kids_hit h1] at hk; exact hsh s hf.here _ hk i hp
  | @more b c hb hk ih =>
   by_cases hpb : plc xs b < 0
   ·rw [kids_miss hpb] at hk; cases hk
   ·have hk2 := hk
    rw [kids_hit (k := (plc xs b).toNat) (by omega)] at hk2
    have hi := ih (plc xs b).toNat ⟨b, ‹_›, by omega⟩ (by omega)
    exact hsh _ (hf.in_ _ hi).1 _ hk2 i hp

/-- How many entries have an id. -/
def linksN (xs : List InoD) (a : Int) : Nat := (allIds xs).count a
noncomputable def inoOkB (xs : List InoD) (x : InoD) : Bool :=
 if x.kd = 1 then decide (x.es.length = 0) && decide (x.s.size <= 20) && decide (x.ln = (linksN xs x.id : Int))
 else decide (x.kd = 2) && decide (x.s.size = 0) && decide (x.ln = 1) && dirOkB x.es && (decide (x.id = 1) || decide (linksN xs x.id = 1)) && x.es.all (fun e => decide (e.d ≠ 1) && decide (0 <= plc xs e.d))
/-- A volume is right (nx: its next id). -/
structure VolP (nx : Int) (xs : List InoD) : Prop where
 next : 2 <= nx /\ nx <= 100000
 n : 1 <= xs.length /\ xs.length <= 16
 head : ∃ x, xs[0]? = some x /\ x.id = 1 /\ x.kd = 2
 rows : ∀ (k : Nat) (hk : k < xs.length), 1 <= xs[k].id /\ xs[k].id <= nx - 1 /\ (∀ (h : 0 < k), xs[k-1].id < xs[k].id) /\ inoOkB xs xs[k] = true
 reach : ∀ (k : Nat) (hk : k < xs.length), 1 <= k -> Rch xs 1 xs[k].id
noncomputable def volOkB (nx : Int) (xs : List InoD) : Bool := open Classical in decide (VolP nx xs)
theorem volOkB_iff {nx : Int} {xs : List InoD} : volOkB nx xs = true ↔ VolP nx xs := by unfold volOkB; simp

/-- Ids that grow are told apart by their places. -/
theorem grow_lt {xs : List InoD} (h : ∀ (k : Nat) (hk : k < xs.length), ∀ (_ : 0 < k), xs[k-1].id < xs[k].id) : ∀ (j k : Nat) (hk : k < xs.length) (hj : j < k), xs[j].id < xs[k].id
 | j, k + 1, hk, hj => by
  have h1 := h (k + 1) hk (by omega)
  simp only [Nat.add_sub_cancel] at h1
  by_cases he : j = k
  ·subst he; exact h1
  ·have h2 := grow_lt h j k (by omega) (by omega)
   omega
theorem plc_own {xs : List InoD} (h : ∀ (k : Nat) (hk : k < xs.length), ∀ (_ : 0 < k), xs[k-1].id < xs[k].id) {k : Nat} (hk : k < xs.length) : plc xs xs[k].id = (k : Int) :=
 plc_hit hk rfl fun j hj => by have := grow_lt h j k hk hj; omega
theorem plc_inj {xs : List InoD} {a : Int} {k : Nat} (hk : k < xs.length) (h : plc xs a = (k : Int)) : xs[k].id = a := by
 obtain ⟨j, hj, h1, h2⟩ := plc_lt (xs := xs) (a := a) (by omega)
 have : j = k := by omega
 subst this; exact h2
theorem below_own {xs : List InoD} (h : ∀ (k : Nat) (hk : k < xs.length), ∀ (_ : 0 < k), xs[k-1].id < xs[k].id) (a : Int) {k : Nat} (hk : k < xs.length) : (belowB xs a)[k]? = some true ↔ Rch xs a xs[k].id := by
 rw [belowB_iff]
 refine ⟨fun ⟨b, hb, hp⟩ => ?_, fun hr => ⟨_, hr, plc_own h hk⟩⟩
 rw [plc_inj hk hp]; exact hb

section
variable {nx : Int} {xs : List InoD}
theorem VolP.grow (h : VolP nx xs) : ∀ (k : Nat) (hk : k < xs.length), ∀ (_ : 0 < k), xs[k-1].id < xs[k].id := fun k hk h0 => (h.rows k hk).2.2.1 h0
theorem VolP.ino (h : VolP nx xs) {x : InoD} (hx : x ∈ xs) : inoOkB xs x = true := by
 obtain ⟨k, hk, rfl⟩ := List.getElem_of_mem hx
 exact (h.rows k hk).2.2.2
theorem VolP.one (h : VolP nx xs) : plc xs 1 = 0 := by
 obtain ⟨x, h1, h2, _⟩ := h.head
 obtain ⟨h0, rfl⟩ := List.getElem?_eq_some_iff.1 h1
 have := plc_own h.grow h0
 rw [h2] at this; exact this
/-- Who has entries is a directory, with one link. -/
theorem VolP.dir (h : VolP nx xs) {x : InoD} (hx : x ∈ xs) (he : x.es ≠ []) : x.kd = 2 := by
 have h1 := h.ino hx
 unfold inoOkB at h1
 split at h1
 ·simp at h1; exact absurd h1.1.1 he
 ·simp at h1; exact h1.1.1.1.1.1
theorem VolP.link1 (h : VolP nx xs) {x : InoD} (hx : x ∈ xs) (hk : x.kd = 2) (h1 : x.id ≠ 1) : linksN xs x.id = 1 := by
 have h2 := h.ino hx
 unfold inoOkB at h2
 rw [if_neg (by omega)] at h2
 simp at h2
 exact h2.1.2.resolve_left h1
theorem VolP.not1 (h : VolP nx xs) {x : InoD} (hx : x ∈ xs) {e : EntD} (he : e ∈ x.es) : e.d ≠ 1 /\ 0 <= plc xs e.d := by
 have hk := h.dir hx (List.ne_nil_of_mem he)
 have h2 := h.ino hx
 unfold inoOkB at h2
 rw [if_neg (by omega)] at h2
 simp at h2
 exact h2.2 e he
theorem VolP.dirOk (h : VolP nx xs) {x : InoD} (hx : x ∈ xs) (hk : x.kd = 2) : dirOkB x.es = true := by
 have h2 := h.ino hx
 unfold inoOkB at h2
 rw [if_neg (by omega)] at h2
 simp at h2
 exact h2.1.1.2
end

section
variable {nx : Int} {xs : List InoD}
end
section
variable {nx : Int} {xs : List InoD}
end

/-- Inodes as cells. -/
def IC : List InoD -> List Value -> List Value
 | x :: xs, v :: vs => .int .i64 x.id :: .int .i64 x.kd :: .int .i64 x.ln :: .string x.s :: v :: IC xs vs
 | _, _ => []
theorem IC_length : ∀ (xs : List InoD) (vs : List Value), vs.length = xs.length -> (IC xs vs).length = xs.length * 5
 | [], [], _ => rfl
 | x :: xs, v :: vs, h => by have := IC_length xs vs (by simpa using h); simp only [IC, List.length_cons]; omega
theorem IC_get : ∀ (xs : List InoD) (vs : List Value) (k : Nat) (h : k < xs.length) (v : Value), vs[k]? = some v -> (IC xs vs)[k * 5]? = some (.int .i64 xs[k].id) /\ (IC xs vs)[k * 5 + 1]? = some (.int .i64 xs[k].kd) /\ (IC xs vs)[k * 5 + 2]? = some (.int .i64 xs[k].ln) /\ (IC xs vs)[k * 5 + 3]? = some (.string xs[k].s) /\ (IC xs vs)[k * 5 + 4]? = some v
 | x :: xs, u :: vs, 0, _, v, hv => by simp at hv; subst hv; exact ⟨rfl, rfl, rfl, rfl, rfl⟩
 | x :: xs, u :: vs, k + 1, h, v, hv => by
  have := IC_get xs vs k (by simpa using h) v (by simpa using hv)
  rw [show (k + 1) * 5 = k * 5 + 1 + 1 + 1 + 1 + 1 by omega]
  simpa [IC] using this
 | x :: xs, [], k, _, v, hv => by simp at hv
theorem IC_append : ∀ (xs : List InoD) (vs : List Value) (x : InoD) (v : Value), vs.length = xs.length -> IC (xs ++ [x]) (vs ++ [v]) = IC xs vs ++ [.int .i64 x.id, .int .i64 x.kd, .int .i64 x.ln, .string x.s, v]
 | [], [], x, v, _ => rfl
 | y :: xs, u :: vs, x, v, h => by
  have := IC_append xs vs x v (by simpa using h)
  simp only [List.cons_append, IC, this]

theorem own_far {w : World} {base : Nat} {e : TypeId} {size n g c : Nat} {xs : List Value} {p : Addr} {u : Value} (h : w.ownsRow base e size (.slice (some ⟨g, 0, none⟩) n c) n xs) (hg : g ≠ p.block) : (w.setCell p u).ownsRow base e size (.slice (some ⟨g, 0, none⟩) n c) n xs :=
 own_same h (Below.heap_setCell w p u g hg)

/-- Inodes as they lie in memory. -/
def VAt (w : World) (B : Nat) (A : Option Addr) (n : Nat) (xs : List InoD) : Prop :=
 ∃ vs : List Value, Reads w B 5 A n (IC xs vs) /\ xs.length = n /\ vs.length = n /\ ∀ (i : Nat) (hi : i < xs.length), ∃ A' c, vs[i]? = some (.slice A' xs[i].es.length c) /\ Reads w B 4 A' xs[i].es.length (ES xs[i].es)
section
variable {w w' : World} {B B' : Nat} {A : Option Addr} {n : Nat} {xs : List InoD}
theorem VAt.len (h : VAt w B A n xs) : xs.length = n := by obtain ⟨_, _, h, _⟩ := h; exact h
theorem VAt.below (h : VAt w B A n xs) (hb : Below B w w') : VAt w' B A n xs := by
 obtain ⟨vs, h1, h2, h2', h3⟩ := h
 refine ⟨vs, h1.below hb, h2, h2', fun i hi => ?_⟩
 obtain ⟨A', c, h4, h5⟩ := h3 i hi
 exact ⟨A', c, h4, h5.below hb⟩
theorem VAt.more (h : VAt w B A n xs) (hB : B <= B') : VAt w B' A n xs := by
 obtain ⟨vs, h1, h2, h2', h3⟩ := h
 refine ⟨vs, h1.more hB, h2, h2', fun i hi => ?_⟩
 obtain ⟨A', c, h4, h5⟩ := h3 i hi
 exact ⟨A', c, h4, h5.more hB⟩
theorem VAt.at_ (h : VAt w B A n xs) {k : Nat} (hk : k < n) :
  ∃ (hk' : k < xs.length) (b o : Nat) (A' : Option Addr) (c : Nat), A = some ⟨b, o, none⟩ /\ b < B /\ w.cell? ⟨b, o + k * 5, none⟩ = some (.int .i64 xs[k].id) /\ w.cell? ⟨b, o + k * 5 + 1, none⟩ = some (.int .i64 xs[k].kd) /\ w.cell? ⟨b, o + k * 5 + 2, none⟩ = some (.int .i64 xs[k].ln) /\ w.cell? ⟨b, o + k * 5 + 3, none⟩ = some (.string xs[k].s) /\ w.cell? ⟨b, o + k * 5 + 4, none⟩ = some (.slice A' xs[k].es.length c) /\ Reads w B 4 A' xs[k].es.length (ES xs[k].es) := by
 obtain ⟨vs, h1, h2, h2', h3⟩ := h
 have hk' : k < xs.length := by omega
 obtain ⟨A', c, h4, h5⟩ := h3 k hk'
 obtain ⟨ad, rfl, hb, hc⟩ := h1.2 (by omega)
 obtain ⟨g0, g1, g2, g3, g4⟩ := IC_get xs vs k hk' _ h4
 obtain ⟨A0, c0, hv0, _⟩ := h3 0 (by omega)
 obtain ⟨e0, _⟩ := IC_get xs vs 0 (by omega) _ hv0
 have hc0 := hc 0 _ e0
 have ha0 : ad.add 0 = ad := by simp [Addr.add]
 rw [ha0] at hc0
 obtain ⟨b, o, rfl⟩ := flat_addr hc0
 have ha : ∀ j, (Addr.add ⟨b, o, none⟩ j) = ⟨b, o + j, none⟩ := fun j => by unfold Addr.add; split <;> simp_all
 have z : ∀ j u, (IC xs vs)[j]? = some u -> w.cell? ⟨b, o + j, none⟩ = some u := fun j u hu => by rw [<- ha]; exact hc j u hu
 refine ⟨hk', b, o, A', c, rfl, hb, z _ _ g0, ?_, ?_, ?_, ?_, h5⟩
 ·rw [show o + k * 5 + 1 = o + (k * 5 + 1) by omega]; exact z _ _ g1
 ·rw [show o + k * 5 + 2 = o + (k * 5 + 2) by omega]; exact z _ _ g2
 ·rw [show o + k * 5 + 3 = o + (k * 5 + 3) by omega]; exact z _ _ g3
 ·rw [show o + k * 5 + 4 = o + (k * 5 + 4) by omega]; exact z _ _ g4
end

/-- How much a volume has of the size. -/
def szI (x : InoD) : Nat := x.s.size + szS x.es
def szIs (xs : List InoD) : Nat := xs.length + (xs.map szI).sum
theorem szIs_mem (xs : List InoD) (x : InoD) (h : x ∈ xs) : szI x <= szIs xs := by have := sum_mem szI xs x h; unfold szIs; omega
theorem szIs_len (xs : List InoD) : xs.length <= szIs xs := by unfold szIs; omega
/-- A volume: its next id and its inodes. -/
structure VolD where
 nx : Int
 xs : List InoD
/-- A value is this volume. -/
def IsVol (w : World) (v : Value) (V : VolD) : Prop := ∃ A c, v = .agg #[.int .i64 V.nx, .slice A V.xs.length c] /\ VAt w w.heap.size A V.xs.length V.xs
theorem IsVol.next {w w' : World} {v : Value} {V : VolD} (h : IsVol w v V) (hb : Below w.heap.size w w') : IsVol w' v V := by
 obtain ⟨A, c, h1, h2⟩ := h
 exact ⟨A, c, h1, (h2.below hb).more hb.size⟩
/-- .. the slice of its inodes with its capacity. -/
def IsVolC (w : World) (v : Value) (V : VolD) : Prop := ∃ A c, v = .agg #[.int .i64 V.nx, .slice A V.xs.length c] /\ VAt w w.heap.size A V.xs.length V.xs /\ V.xs.length <= c
theorem IsVolC.is {w : World} {v : Value} {V : VolD} (h : IsVolC w v V) : IsVol w v V := by
 obtain ⟨A, c, h1, h2, _⟩ := h
 exact ⟨A, c, h1, h2⟩
theorem IsVolC.next {w w' : World} {v : Value} {V : VolD} (h : IsVolC w v V) (hb : Below w.heap.size w w') : IsVolC w' v V := by
 obtain ⟨A, c, h1, h2, h3⟩ := h
 exact ⟨A, c, h1, (h2.below hb).more hb.size, h3⟩
def szV (V : VolD) : Nat := szIs V.xs
theorem v_rows {V : VolD} (sm : szV V <= 1048576) : ∀ x ∈ V.xs, x.es.length <= 10000000 := fun x hx => by have h1 := szIs_mem V.xs x hx; have h2 := szS_n x.es; unfold szV at sm; unfold szI at h1; omega
theorem v_len {V : VolD} (sm : szV V <= 1048576) : V.xs.length <= 10000000 := by have := szIs_len V.xs; unfold szV at sm; omega

theorem VAt.next {w w' : World} {A : Option Addr} {n : Nat} {xs : List InoD} (h : VAt w w.heap.size A n xs) (hb : Below w.heap.size w w') : VAt w' w'.heap.size A n xs := (h.below hb).more hb.size

theorem at_clo (x : InoD) (A : Option Addr) (l c B : Nat) (a : Int) (w : World) (hB : w.cell? ⟨B, 0, none⟩ = some (.int .i64 a)) :
  Calls Tryz.prog 89 #[.agg #[.int .i64 x.id, .int .i64 x.kd, .int .i64 x.ln, .string x.s, .slice A l c], .pointer (some ⟨B, 0, none⟩)] w fun r w' => r = .returned (.bool (x.id == a)) /\ Below w.heap.size w w' := by
 obtain ⟨i, kd, ln, s, es⟩ := x
 have hlt := World.block_lt_of_cell? _ _ hB
 simp only at hlt
 go_enter Tryz.func89, Tryz.ntmps89
 go_wp2
 go_ret
 exact ⟨rfl, belA (bel0 w) _⟩

theorem indexFunc_at (A : Option Addr) (n c : Nat) (xs : List InoD) (hn : n <= 9223372036854775807) (B : Nat) (a : Int) (w : World) (hB : w.cell? ⟨B, 0, none⟩ = some (.int .i64 a)) (hr : VAt w w.heap.size A n xs) :
  Calls Tryz.prog 88 #[.slice A n c, .func (.func 89) #[] #[.pointer (some ⟨B, 0, none⟩)]] w fun e w' => e = .returned (.int .i64 (plc xs a)) /\ Below w.heap.size w w' := by
 have hl := hr.len
 have Hr := Lib.hid hr
 have HB := Lib.hid hB
 clear hr hB
 go_enter Tryz.func88, Tryz.ntmps88
 go_wp2
 go_loopw [8] (fun i wr => ∃ (k : Nat), k <= n /\ i = .int .i64 k /\ Hid (∀ (j : Nat) (_ : j < k) (hj : j < xs.length), xs[j].id ≠ a) /\ Below w.heap.size w wr)
  (fun i _ => n - (intOf i).toNat)
 case atStart => exact ⟨0, by omega, rfl, (fun j h => absurd h (by omega)), bel0 w⟩
 case round =>
  obtain ⟨k, hk, rfl, hnone, hbel⟩ := hrel
  by_cases hlt : k < n
  ·obtain ⟨hkx, b, o, A', c', rfl, hadb, z0, z1, z2, z3, z4, hrow⟩ := (Hr.out.below hbel).at_ hlt
   have q0 : (0 : Int) <= ↑k := by omega
   have q1 : (↑k : Int) < ↑n := by omega
   have hcl := at_clo xs[k] A' xs[k].es.length c' B a _ (kp_ hbel HB.out)
   have Hcl := Lib.hid hcl
   clear hrow hcl
   rcases hp : (xs[k].id == a) with _ | _
   ·have hp' : xs[k].id ≠ a := by simpa using hp
    have Hp := Lib.hid hp
    have Hp' := Lib.hid hp'
    clear hp hp'
    go_wp2_with fail
    refine Hcl.out.mono ?_
    rintro r w2 ⟨rfl, hb2⟩
    rw [Hp.out]
    go_wp2
    go_roundw
    case rel => exact ⟨k + 1, by omega, by go_num, (fun j h1 h2 => by
     by_cases h3 : j = k
     ·subst h3; exact Hp'.out
     ·exact hnone.out j (by omega) h2), belN hbel hb2⟩
    case measure => simp [intOf]; omega
   ·have hp' : xs[k].id = a := by simpa using hp
    have Hf := Lib.hid (plc_hit hkx hp' fun j hj => hnone.out j hj (by omega))
    have Hp := Lib.hid hp
    clear hp hp'
    go_wp2_with fail
    refine Hcl.out.mono ?_
    rintro r w2 ⟨rfl, hb2⟩
    rw [Hp.out]
    go_wp2
    go_ret
    exact ⟨ret_int Hf.out.symm, belN hbel hb2⟩
  ·have Hf := Lib.hid (plc_miss (xs := xs) (a := a) fun x hx => by
    obtain ⟨j, hj, rfl⟩ := List.getElem_of_mem hx
    exact hnone.out j (by omega) hj)
   go_wp2
   go_ret
   exact ⟨ret_int Hf.out.symm, hbel⟩

theorem at_impl (v : Value) (V : VolD) (hn : V.xs.length <= 10000000) (a : Int) (w : World) (h : IsVol w v V) :
  Calls Tryz.prog 47 #[v, .int .i64 a] w fun e w' => e = .returned (.int .i64 (plc V.xs a)) /\ Below w.heap.size w w' := by
 obtain ⟨A, c, rfl, h⟩ := h
 obtain ⟨nx, xs⟩ := V
 simp only at h hn ⊢
 have H := Lib.hid h
 have hmf : ∀ (fn : Fn) (first cap : Array Value) (w : World), (Instr.makeFunc fn first cap).run Tryz.prog w = .ok (.func fn first cap) w := fun _ _ _ _ => rfl
 clear h
 go_enter Tryz.func47, Tryz.ntmps47
 go_wp2_with fail
 have B0 := belA (belA (bel0 w) (.cells #[.int .i64 nx, .slice A xs.length c] 26)) (.cells #[.int .i64 a] 3)
 have hBk := Blk.new' (w.alloc (.cells #[.int .i64 nx, .slice A xs.length c] 26)) 3 #[.int .i64 a] (w.heap.size + 1) (by simp)
 refine (indexFunc_at A xs.length c xs (by omega) (w.heap.size + 1) a _ (hBk.get 0 rfl) (H.out.next B0)).mono ?_
 rintro e w1 ⟨rfl, hb1⟩
 clear hBk
 go_wp2
 go_ret
 exact ⟨rfl, belN B0 hb1⟩

theorem l6At_any (v : Value) (V : VolD) (hn : V.xs.length <= 10000000) (a : Int) (w : World) (h : IsVol w v V) :
  Calls Tryz.prog 54 #[v, .int .i64 a] w fun e w' => e = .returned (.int .i64 (plc V.xs a)) /\ Below w.heap.size w w' := by
 obtain ⟨A, c, rfl, h⟩ := h
 obtain ⟨nx, xs⟩ := V
 simp only at h hn ⊢
 obtain ⟨n, hn'⟩ : ∃ n, xs.length = n := ⟨_, rfl⟩
 have HL := Lib.hid hn'
 rw [hn'] at h hn ⊢
 have H := Lib.hid h
 clear h hn'
 go_enter Tryz.func54, Tryz.ntmps54
 go_wp2
 obtain ⟨W0, hW0⟩ : ∃ W0, w.alloc (.cells #[.int .i64 nx, .slice A n c] 26) = W0 := ⟨_, rfl⟩
 have B0 : Below w.heap.size w W0 := by rw [<- hW0]; exact belA (bel0 w) _
 have hO : Blk W0 w.heap.size 26 #[.int .i64 nx, .slice A n c] := by rw [<- hW0]; exact Blk.new' _ _ _ _ rfl
 rw [hW0]
 clear hW0
 have c1 := hO.get 1 rfl
 go_loopw [5] (fun i wr => ∃ (k : Nat), k <= n /\ i = .int .i64 k /\ Hid (∀ (j : Nat) (_ : j < k) (hj : j < xs.length), xs[j].id ≠ a) /\ Below W0.heap.size W0 wr)
  (fun i _ => n - (intOf i).toNat)
 case atStart => exact ⟨0, by omega, rfl, (fun j h => absurd h (by omega)), bel0 W0⟩
 case round =>
  obtain ⟨k, hk, rfl, hnone, hbel⟩ := hrel
  have k1 := kp_ hbel c1
  clear c1
  by_cases hlt : k < n
  ·obtain ⟨hkx, b, o, A', c', rfl, hadb, z0, z1, z2, z3, z4, hrow⟩ := ((H.out.next B0).below hbel).at_ hlt
   have q0 : (0 : Int) <= ↑k := by omega
   have q1 : (↑k : Int) < ↑n := by omega
   clear hrow
   by_cases hp : xs[k].id = a
   ·have Hf := Lib.hid (plc_hit hkx hp fun j hj => hnone.out j hj (by omega))
    have Hp := Lib.hid hp
    have hp2 : (xs[k].id == a) = true := by simpa using hp
    clear hp
    go_wp2
    go_ret
    exact ⟨ret_int Hf.out.symm, belN B0 hbel⟩
   ·have Hp := Lib.hid hp
    have hp2 : (xs[k].id == a) = false := by simpa using hp
    clear hp
    go_wp2
    go_roundw
    case rel => exact ⟨k + 1, by omega, by go_num, (fun j h1 h2 => by
     by_cases h3 : j = k
     ·subst h3; exact Hp.out
     ·exact hnone.out j (by omega) h2), hbel⟩
    case measure => simp [intOf]; omega
  ·have Hf := Lib.hid (plc_miss (xs := xs) (a := a) fun x hx => by
    obtain ⟨j, hj, rfl⟩ := List.getElem_of_mem hx
    exact hnone.out j (by have := HL.out; omega) hj)
   go_wp2
   go_ret
   exact ⟨ret_int Hf.out.symm, belN B0 hbel⟩

/-- How many of the first so many inodes' entries have an id. -/
def linksTo (xs : List InoD) (a : Int) (i : Nat) : Nat := (allIds (xs.take i)).count a
def linksIn (es : List EntD) (a : Int) (k : Nat) : Nat := ((es.take k).map (·.d)).count a
theorem linksTo_succ {xs : List InoD} (a : Int) {i : Nat} (hi : i < xs.length) : linksTo xs a (i + 1) = linksTo xs a i + linksIn xs[i].es a xs[i].es.length := by
 unfold linksTo linksIn allIds
 rw [List.take_succ_eq_append_getElem hi, List.flatMap_append, List.count_append, List.take_length]
 simp
theorem linksTo_all (xs : List InoD) (a : Int) : linksTo xs a xs.length = linksN xs a := by unfold linksTo linksN; rw [List.take_length]
theorem linksIn_succ {es : List EntD} (a : Int) {k : Nat} (hk : k < es.length) : linksIn es a (k + 1) = linksIn es a k + if es[k].d = a then 1 else 0 := by
 unfold linksIn
 rw [List.take_succ_eq_append_getElem hk, List.map_append, List.count_append]
 simp [List.count_singleton]
theorem linksIn_le (es : List EntD) (a : Int) (k : Nat) : linksIn es a k <= k := by
 unfold linksIn
 have := List.count_le_length (a := a) (l := (es.take k).map (·.d))
 rw [List.length_map, List.length_take] at this; omega
theorem allIds_take (xs : List InoD) (i : Nat) : (allIds (xs.take i)).length <= (allIds xs).length := by
 unfold allIds
 conv => rhs; rw [<- List.take_append_drop i xs]
 rw [List.flatMap_append, List.length_append]; omega
theorem linksTo_le (xs : List InoD) (a : Int) (i : Nat) : linksTo xs a i <= (allIds xs).length := by
 have := List.count_le_length (a := a) (l := allIds (xs.take i))
 have := allIds_take xs i
 unfold linksTo; omega

theorem links_impl (v : Value) (V : VolD) (hn : V.xs.length <= 10000000) (ha : (allIds V.xs).length <= 10000000) (hz : ∀ x ∈ V.xs, x.es.length <= 10000000) (a : Int) (w : World) (h : IsVol w v V) :
  Calls Tryz.prog 142 #[v, .int .i64 a] w fun e w' => e = .returned (.int .i64 (linksN V.xs a : Nat)) /\ Below w.heap.size w w' := by
 obtain ⟨A, c, rfl, h⟩ := h
 obtain ⟨nx, xs⟩ := V
 simp only at h hn ha hz ⊢
 obtain ⟨n, hn'⟩ : ∃ n, xs.length = n := ⟨_, rfl⟩
 have HL := Lib.hid hn'
 rw [hn'] at h hn ⊢
 have H := Lib.hid h
 have Hz := Lib.hid hz
 clear h hn' hz
 go_enter Tryz.func142, Tryz.ntmps142
 go_wp2
 go_loopw [5, 13] (fun m i wr => ∃ (k : Nat) (q : Nat), k <= n /\ i = .int .i64 k /\ m = .int .i64 q /\ Hid (q = linksTo xs a k) /\ Below w.heap.size w wr)
  (fun _ i _ => n - (intOf i).toNat)
 case atStart => exact ⟨0, 0, by omega, rfl, rfl, rfl, belA (bel0 w) _⟩
 case round =>
  obtain ⟨k, q, hk, rfl, rfl, hq, hbel⟩ := hrel
  have hqb : q <= 10000000 := by have := linksTo_le xs a k; have := hq.out; omega
  by_cases hlt : k < n
  ·obtain ⟨hkx, b, o, A', c', rfl, hadb, z0, z1, z2, z3, z4, hrow⟩ := (H.out.below hbel).at_ hlt
   have q0 : (0 : Int) <= ↑k := by omega
   have q1 : (↑k : Int) < ↑n := by omega
   have Hs := Lib.hid (linksTo_succ a hkx)
   have hzk := Hz.out _ (List.getElem_mem hkx)
   obtain ⟨x, hx⟩ : ∃ x, xs[k] = x := ⟨_, rfl⟩
   rw [hx] at z0 z1 z2 z3 z4 hrow Hs hzk
   clear hx
   obtain ⟨xi, xk, xl, xt, es⟩ := x
   simp only at z0 z1 z2 z3 z4 hrow Hs hzk
   obtain ⟨m, hm⟩ : ∃ m, es.length = m := ⟨_, rfl⟩
   have HM := Lib.hid hm
   rw [hm] at z4 hrow hzk Hs
   have Hrow := Lib.hid hrow
   clear hrow hm
   rename World => wo
   go_wp2
   go_loopw [5, 20] (fun u i wr => ∃ (j : Nat) (p : Nat), j <= m /\ i = .int .i64 j /\ u = .int .i64 p /\ Hid (p = q + linksIn es a j) /\ Below wo.heap.size wo wr)
    (fun _ i _ => m - (intOf i).toNat)
   case atStart => exact ⟨0, q, by omega, rfl, rfl, rfl, belA (bel0 wo) _⟩
   case round =>
    obtain ⟨j, p, hj, rfl, rfl, hp, hbel2⟩ := hrel
    have hpb : p <= 20000000 := by have := linksIn_le es a j; have := hp.out; omega
    by_cases hlt2 : j < m
    ·obtain ⟨hjx, b2, o2, rfl, hadb2, y0, y1, y2, y3⟩ := reads_ent (Hrow.out.below (hbel2.mono hbel.size)) hlt2
     have q2 : (0 : Int) <= ↑j := by omega
     have q3 : (↑j : Int) < ↑m := by omega
     have Hs2 := Lib.hid (linksIn_succ a hjx)
     by_cases he : es[j].d = a
     ·have he2 : (es[j].d == a) = true := by simpa using he
      have He := Lib.hid he
      clear he
      go_wp2
      go_roundw
      case rel => exact ⟨j + 1, p + 1, by omega, by go_num, by go_num, by have := hp.out; have := Hs2.out; rw [if_pos He.out] at this; show _ = _; omega, belA hbel2 _⟩
      case measure => simp [intOf]; omega
     ·have he2 : (es[j].d == a) = false := by simpa using he
      have He := Lib.hid he
      clear he
      go_wp2
      go_roundw
      case rel => exact ⟨j + 1, p, by omega, by go_num, rfl, by have := hp.out; have := Hs2.out; rw [if_neg He.out] at this; show _ = _; omega, belA hbel2 _⟩
      case measure => simp [intOf]; omega
    ·obtain rfl : j = m := by omega
     go_wp2
     go_roundw
     case rel => exact ⟨k + 1, p, by omega, by go_num, rfl, by have := hp.out; have := Hs.out; have := hq.out; show _ = _; omega, belN hbel hbel2⟩
     case measure => simp [intOf]; omega
  ·obtain rfl : k = n := by omega
   go_wp2
   go_ret
   exact ⟨ret_int (by have := hq.out; rw [<- linksTo_all, HL.out]; omega), hbel⟩

theorem l6Named_any (v : Value) (V : VolD) (hn : V.xs.length <= 10000000) (ha : (allIds V.xs).length <= 10000000) (hz : ∀ x ∈ V.xs, x.es.length <= 10000000) (a : Int) (w : World) (h : IsVol w v V) :
  Calls Tryz.prog 94 #[v, .int .i64 a] w fun e w' => e = .returned (.int .i64 (linksN V.xs a : Nat)) /\ Below w.heap.size w w' := by
 obtain ⟨A, c, rfl, h⟩ := h
 obtain ⟨nx, xs⟩ := V
 simp only at h hn ha hz ⊢
 obtain ⟨n, hn'⟩ : ∃ n, xs.length = n := ⟨_, rfl⟩
 have HL := Lib.hid hn'
 rw [hn'] at h hn ⊢
 have H := Lib.hid h
 have Hz := Lib.hid hz
 clear h hn' hz
 go_enter Tryz.func94, Tryz.ntmps94
 go_wp2
 obtain ⟨W0, hW0⟩ : ∃ W0, w.alloc (.cells #[.int .i64 nx, .slice A n c] 26) = W0 := ⟨_, rfl⟩
 have B0 : Below w.heap.size w W0 := by rw [<- hW0]; exact belA (bel0 w) _
 have hO : Blk W0 w.heap.size 26 #[.int .i64 nx, .slice A n c] := by rw [<- hW0]; exact Blk.new' _ _ _ _ rfl
 rw [hW0]
 clear hW0
 have H0 := Lib.hid (H.out.next B0)
 have C1 := Lib.hid (hO.get 1 rfl)
 clear hO
 go_loopw [5, 6] (fun m i wr => ∃ (k : Nat) (q : Nat), k <= n /\ i = .int .i64 k /\ m = .int .i64 q /\ Hid (q = linksTo xs a k) /\ Below W0.heap.size W0 wr)
  (fun _ i _ => n - (intOf i).toNat)
 case atStart => exact ⟨0, 0, by omega, rfl, rfl, rfl, bel0 W0⟩
 case round =>
  obtain ⟨k, q, hk, rfl, rfl, hq, hbel⟩ := hrel
  have hqb : q <= 10000000 := by have := linksTo_le xs a k; have := hq.out; omega
  have k1 := kp_ hbel C1.out
  by_cases hlt : k < n
  ·have hkx : k < xs.length := by have := HL.out; omega
   have q0 : (0 : Int) <= ↑k := by omega
   have q1 : (↑k : Int) < ↑n := by omega
   have Hs := Lib.hid (linksTo_succ a hkx)
   have hzk := Hz.out _ (List.getElem_mem hkx)
   rename World => wo
   go_wp2
   clear k1
   go_loopw [5, 7] (fun u i wr => ∃ (j : Nat) (p : Nat), j <= xs[k].es.length /\ i = .int .i64 j /\ u = .int .i64 p /\ Hid (p = q + linksIn xs[k].es a j) /\ Below W0.heap.size W0 wr)
    (fun _ i _ => xs[k].es.length - (intOf i).toNat)
   case atStart => exact ⟨0, q, by omega, rfl, rfl, rfl, hbel⟩
   case round =>
    obtain ⟨j, p, hj, rfl, rfl, hp, hbel2⟩ := hrel
    have hpb : p <= 20000000 := by have := linksIn_le xs[k].es a j; have := hp.out; omega
    have k1 := kp_ hbel2 C1.out
    obtain ⟨_, b, o, A', c', rfl, hadb, z0, z1, z2, z3, z4, hrow⟩ := (H0.out.below hbel2).at_ hlt
    clear z0 z1 z2 z3
    by_cases hlt2 : j < xs[k].es.length
    ·obtain ⟨hjx, b2, o2, rfl, hadb2, y0, y1, y2, y3⟩ := reads_ent hrow hlt2
     have q2 : (0 : Int) <= ↑j := by omega
     have q3 : (↑j : Int) < ↑xs[k].es.length := by omega
     have Hs2 := Lib.hid (linksIn_succ a hjx)
     clear y0 y1 y2 hrow
     by_cases he : xs[k].es[j].d = a
     ·have he2 : (xs[k].es[j].d == a) = true := by simpa using he
      have He := Lib.hid he
      clear he
      go_wp2
      go_roundw
      case rel => exact ⟨j + 1, p + 1, by omega, by go_num, by go_num, by have := hp.out; have := Hs2.out; rw [if_pos He.out] at this; show _ = _; omega, hbel2⟩
      case measure => simp [intOf]; omega
     ·have he2 : (xs[k].es[j].d == a) = false := by simpa using he
      have He := Lib.hid he
      clear he
      go_wp2
      go_roundw
      case rel => exact ⟨j + 1, p, by omega, by go_num, rfl, by have := hp.out; have := Hs2.out; rw [if_neg He.out] at this; show _ = _; omega, hbel2⟩
      case measure => simp [intOf]; omega
    ·have hje : j = xs[k].es.length := by omega
     clear hrow
     go_wp2
     go_roundw
     case rel => exact ⟨k + 1, p, by omega, by go_num, rfl, by have h1 := hp.out; rw [hje] at h1; have := Hs.out; have := hq.out; show _ = _; omega, hbel2⟩
     case measure => simp [intOf]; omega
  ·obtain rfl : k = n := by omega
   go_wp2
   go_ret
   exact ⟨ret_int (by have := hq.out; rw [<- linksTo_all, HL.out]; omega), belN B0 hbel⟩

end Go.Proofs.YtjjniapamdleoaaGreatDoor
