/- A helper of laws: two lists of texts that are the same. -/
import Derived.Test.YtjjniapamdleoaaGreatDoorRPStrs
import Derived.Test.YtjjniapamdleoaaGreatDoorRPEnts
namespace Go.Proofs.YtjjniapamdleoaaGreatDoor
open Go Go.RowKit
set_option maxHeartbeats 2000000
set_option maxRecDepth 100000

theorem cell_flat {w : World} {ad : Addr} {v : Value} (h : w.cell? ad = some v) : ∃ b o, ad = ⟨b, o, none⟩ := by
 obtain ⟨b, o, sp⟩ := ad
 cases sp with
 | none => exact ⟨b, o, rfl⟩
 | some x =>
  simp only [World.cell?] at h
  split at h <;> simp at h
theorem reads_strF {w : World} {B n : Nat} {A : Option Addr} {xs : List ByteArray} (h : Reads w B 1 A n (SS xs)) {k : Nat} (hk : k < n) :
  ∃ (hk' : k < xs.length) (b o : Nat), A = some ⟨b, o, none⟩ /\ b < B /\ w.cell? ⟨b, o + k, none⟩ = some (.string xs[k]) := by
 obtain ⟨hk', ad, rfl, hb, hc⟩ := reads_str h hk
 obtain ⟨_, ad0, e0, _, hc0⟩ := reads_str h (k := 0) (by omega)
 injection e0 with e0
 subst e0
 have ha0 : ad.add 0 = ad := by simp [Addr.add]
 rw [ha0] at hc0
 obtain ⟨b, o, rfl⟩ := cell_flat hc0
 have ha : ∀ j, (Addr.add ⟨b, o, none⟩ j) = ⟨b, o + j, none⟩ := fun j => by unfold Addr.add; split <;> simp_all
 rw [ha] at hc
 exact ⟨hk', b, o, rfl, hb, hc⟩

theorem sameT_self (A A' : Option Addr) (c c' : Nat) (L : List ByteArray) (hn : L.length <= 10000000) (w : World) (h : Reads w w.heap.size 1 A L.length (SS L)) (h' : Reads w w.heap.size 1 A' L.length (SS L)) :
  Calls Tryz.prog 27 #[.slice A L.length c, .slice A' L.length c'] w fun e w' => e = .returned (.bool true) /\ Below w.heap.size w w' := by
 have Hr := Lib.hid h
 have Hr' := Lib.hid h'
 clear h h'
 go_enter Tryz.func27, Tryz.ntmps27
 go_wp2
 go_loopw [5] (fun i wr => ∃ k : Nat, k <= L.length /\ i = .int .i64 k /\ Below w.heap.size w wr)
  (fun i _ => L.length - (intOf i).toNat)
 case atStart => exact ⟨0, by omega, rfl, bel0 w⟩
 case round =>
  obtain ⟨k, hk, rfl, hbel⟩ := hrel
  by_cases hlt : k < L.length
  ·obtain ⟨_, b, o, hA, _, y0⟩ := reads_strF (Hr.out.below hbel) hlt
   obtain ⟨_, b', o', hA', _, z0⟩ := reads_strF (Hr'.out.below hbel) hlt
   subst hA hA'
   obtain ⟨e, he⟩ : ∃ e, L[k] = e := ⟨_, rfl⟩
   rw [he] at y0 z0
   clear he
   have q0 : (0 : Int) <= (k : Int) := by omega
   have q1 : (k : Int) < (L.length : Int) := by omega
   go_wp2_with fail
   go_still (by kernel_rfl)
   change Exit.then _ _ Exit.normal _ wr.drew
   go_wp2
   first
    | exact ⟨⟨k + 1, by omega, by go_num, hbel.drew⟩, by simp [intOf]; omega⟩
    | (go_roundw; case rel => exact ⟨k + 1, by omega, by go_num, hbel.drew⟩; case measure => (simp [intOf]; omega))
  ·have q1 : ¬ ((k : Int) < (L.length : Int)) := by omega
   go_wp2
   go_ret
   exact ⟨rfl, hbel⟩

end Go.Proofs.YtjjniapamdleoaaGreatDoor
