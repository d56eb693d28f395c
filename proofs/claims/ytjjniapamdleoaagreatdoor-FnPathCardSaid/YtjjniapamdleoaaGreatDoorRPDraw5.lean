/- What is drawn: directories. -/
import Derived.Test.YtjjniapamdleoaaGreatDoorRPDraw
import Derived.Test.YtjjniapamdleoaaGreatDoorRPDirK
import Derived.Test.YtjjniapamdleoaaGreatDoorRPAdd
import Derived.Test.YtjjniapamdleoaaGreatDoorRPCpE
namespace Go.Proofs.YtjjniapamdleoaaGreatDoor
open Go Go.RowKit
set_option maxHeartbeats 2000000
set_option maxRecDepth 100000

theorem dirOk_nm {ds : List EntD} (h : dirOkB ds = true) : ∀ e ∈ ds, e.s.size <= 25 := by
 intro e he
 have h1 := dir_names h e he
 unfold nameOkB at h1
 split at h1
 ·cases h1
 ·simp [inI] at h1; omega

theorem l5Dir_any (g : Nat) (A : Option Addr) (n cp : Nat) (bs : List UInt8) (hn : n <= 9223372036854775806) (most : Int) (hm : most <= 1000) (w : World) (h : Curs w g A n cp bs) :
  Calls Tryz.prog 127 #[.pointer (some ⟨g, 0, none⟩), .int .i64 most] w fun e w' => ∃ v ds, e = .returned v /\ dirOkB ds = true /\ w'.ownsRow w.heap.size 38 4 v ds.length (ES ds) /\ Curs w' g A n cp bs /\ w.grownBy w' (some g) := by
 have Hb := Lib.hid (fun m hm W hW => l1Below_any g A n cp bs hn m hm W hW)
 have Ho := Lib.hid (fun m hm W hW => l1Once_any g A n cp bs hn m hm W hW)
 have Hn := Lib.hid (fun W hW => l4Name_any g A n cp bs hn W hW)
 have hlt := h.lt
 have own0 := World.ownsRow_lit (e := 38) (size := 4) w #[] 0 (Nat.le_refl _) (by unfold maxLen; omega) rfl
 go_enter Tryz.func127, Tryz.ntmps127
 go_wp2_with fail
 refine (Hb.out most (by omega) _ (h.alloc _)).mono ?_
 rintro e w1 ⟨x, rfl, hx9, hx, hc1, hg1⟩
 have hxx : 0 <= x /\ x <= 1000 := by
  by_cases h0 : 0 < most
  ·have := hx h0; omega
  ·have := hx9 (by omega); omega
 obtain ⟨hx0, hx1⟩ := hxx
 obtain ⟨k, rfl⟩ : ∃ k : Nat, x = (k : Int) := ⟨x.toNat, by omega⟩
 have own1 := own_g own0 hg1 hlt
 have G1 := gb_al hg1
 clear hx hx9
 go_wp2
 go_loopw [5, 6] (fun v i wr => ∃ (k : Nat) (ds : List EntD), i = .int .i64 k /\ k <= 1000 /\ dirOkB ds = true /\ Hid (wr.ownsRow w.heap.size 38 4 v ds.length (ES ds)) /\ Curs wr g A n cp bs /\ w.grownBy wr (some g))
  (fun _ i _ => (intOf i).toNat)
 case atStart => exact ⟨k, [], rfl, by omega, dirOk_nil, own1, hc1, G1⟩
 case round =>
  clear own1 hc1 G1 hg1 own0
  obtain ⟨k, ds, rfl, hk, hok, Own, hc, G⟩ := hrel
  have h12 := (dirOk_pw.1 hok).1
  have hnm := dirOk_nm hok
  by_cases h0 : k = 0
  ·subst h0
   obtain ⟨A5, c5, rfl, _, _, hr5⟩ := own_vals Own.out
   go_wp2_with fail
   refine (l5Copy_any A5 ds.length c5 ds (by omega) _ hr5).mono ?_
   rintro e w2 ⟨v2, rfl, own2, hb2⟩
   go_wp2
   go_ret
   exact ⟨_, ds, rfl, hok, own_more own2 G.size, hc.below hb2, gb_below G hb2⟩
  ·have hk0 : (k : Int) > 0 := by omega
   have Hok := Lib.hid hok
   have Hnm := Lib.hid hnm
   clear hok hnm
   go_wp2_with fail
   refine (Ho.out _ (by omega) _ hc).mono ?_
   rintro e w2 ⟨b, rfl, hc2, hg2⟩
   have Own2 := Lib.hid (own_g Own.out hg2 hlt)
   have G2 := G.trans hg2
   cases b
   case true =>
    go_wp2_with fail
    refine (Hn.out _ hc2).mono ?_
    rintro e w3 ⟨s, rfl, hs, hc3, hg3⟩
    have Own3 := Lib.hid (own_g Own2.out hg3 hlt)
    have G3 := G2.trans hg3
    have sz := G3.size
    go_wp2_with fail
    refine (l5Drop_any w.heap.size ds.length _ ds Hok.out (fun e he => by have := Hnm.out e he; omega) s (by omega) w3 sz Own3.out).mono ?_
    rintro e w4 ⟨⟨L, bb, v4, n4, hP, hl, rfl, own4⟩, hb4⟩
    subst hl
    have hok4 : dirOkB L = true := by have h := dropP_ok Hok.out s; rw [hP] at h; exact h
    have hc4 := hc3.below hb4
    have G4 := gb_below G3 hb4
    have Own4 := Lib.hid own4
    clear own4 hP
    have w4 : IntKind.i64.wrap ((k : Int) - 1) = ((k - 1 : Nat) : Int) := by rw [IntKind.wrap_i64]; omega
    go_wp2
    first
     | exact ⟨⟨k - 1, L, by go_num, by omega, hok4, Own4.out, hc4, G4⟩, by simp [intOf]; omega⟩
     | (go_roundw; case rel => exact ⟨k - 1, L, by go_num, by omega, hok4, Own4.out, hc4, G4⟩; case measure => (simp [intOf]; omega))
   case false =>
    go_wp2_with fail
    refine (Hn.out _ hc2).mono ?_
    rintro e w3 ⟨s, rfl, hs, hc3, hg3⟩
    have Own3 := Lib.hid (own_g Own2.out hg3 hlt)
    have G3 := G2.trans hg3
    go_wp2_with fail
    refine (Hb.out 9 (by omega) _ hc3).mono ?_
    rintro e w5 ⟨y, rfl, _, hy, hc5, hg5⟩
    obtain ⟨hy0, hy1⟩ := hy (by omega)
    have Own5 := Lib.hid (own_g Own3.out hg5 hlt)
    have G5 := G3.trans hg5
    have sz := G5.size
    go_wp2_with fail
    refine (l5Add_any w.heap.size ds.length _ ds Hok.out (fun e he => by have := Hnm.out e he; omega) s (by omega) (1 + y) w5 sz Own5.out).mono ?_
    rintro e w4 ⟨⟨L, bb, v4, n4, hP, hl, rfl, own4⟩, hb4⟩
    subst hl
    have hok4 : dirOkB L = true := by have h := addP_ok Hok.out s (1 + y); rw [hP] at h; exact h
    have hc4 := hc5.below hb4
    have G4 := gb_below G5 hb4
    have Own4 := Lib.hid own4
    clear own4 hP
    have w4 : IntKind.i64.wrap ((k : Int) - 1) = ((k - 1 : Nat) : Int) := by rw [IntKind.wrap_i64]; omega
    go_wp2
    first
     | exact ⟨⟨k - 1, L, by go_num, by omega, hok4, Own4.out, hc4, G4⟩, by simp [intOf]; omega⟩
     | (go_roundw; case rel => exact ⟨k - 1, L, by go_num, by omega, hok4, Own4.out, hc4, G4⟩; case measure => (simp [intOf]; omega))

end Go.Proofs.YtjjniapamdleoaaGreatDoor
