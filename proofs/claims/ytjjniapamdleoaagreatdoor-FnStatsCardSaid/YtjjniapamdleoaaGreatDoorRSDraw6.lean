/- What is drawn: directories, mostly right. -/
import Derived.Test.YtjjniapamdleoaaGreatDoorRSDraw
import Derived.Test.YtjjniapamdleoaaGreatDoorRSDirK
import Derived.Test.YtjjniapamdleoaaGreatDoorRSAdd
import Derived.Test.YtjjniapamdleoaaGreatDoorRSCpE
namespace Go.Proofs.YtjjniapamdleoaaGreatDoor
open Go Go.RowKit
set_option maxHeartbeats 4000000
set_option maxRecDepth 100000

theorem dirOk_nm {ds : List EntD} (h : dirOkB ds = true) : ∀ e ∈ ds, e.s.size <= 25 := by
 intro e he
 have h1 := dir_names h e he
 unfold nameOkB at h1
 split at h1
 ·cases h1
 ·simp [inI] at h1; omega

theorem l5Dir_any (g : Nat) (A : Option Addr) (n cp : Nat) (bs : List UInt8) (hn : n <= 9223372036854775806) (most : Int) (hm : most <= 1000) (w : World) (h : Curs w g A n cp bs) :
  Calls Tryz.prog 127 #[.pointer (some ⟨g, 0, none⟩), .int .i64 most] w fun e w' => ∃ v ds, e = .returned v /\ dirOkB ds = true /\ w'.ownsRow w.heap.size 38 4 v ds.length (ES ds) /\ Curs w' g A n cp bs /\ w.grownBy w' (some g) := by
 have Hb := Lib.hid (fun m hm W hW => l1Below_any g A n cp bs hn m hm W hW)
 have Ho := Lib.hid (fun m hm W hW => l1Once_any g A n cp bs hn m hm W hW)
 have Hn := Lib.hid (fun W hW => l4Name_any g A n cp bs hn W hW)
 have hlt := h.lt
 have own0 := World.ownsRow_lit (e := 38) (size := 4) w #[] 0 (Nat.le_refl _) (by unfold maxLen; omega) rfl
 go_enter Tryz.func127, Tryz.ntmps127
 go_wp2_with fail
 refine (Hb.out most (by omega) _ (h.alloc _)).mono ?_
 rintro e w1 ⟨x, rfl, hx9, hx, hc1, hg1⟩
 have hxx : 0 <= x /\ x <= 1000 := by
  by_cases h0 : 0 < most
  ·have := hx h0; omega
  ·have := hx9 (by omega); omega
 obtain ⟨hx0, hx1⟩ := hxx
 obtain ⟨k, rfl⟩ : ∃ k : Nat, x = (k : Int) := ⟨x.toNat, by omega⟩
 have own1 := own_g own0 hg1 hlt
 have G1 := gb_al hg1
 clear hx hx9
 go_wp2
 go_loopw [5, 6] (fun v i wr => ∃ (k : Nat) (ds : List EntD), i = .int .i64 k /\ k <= 1000 /\ dirOkB ds = true /\ Hid (wr.ownsRow w.heap.size 38 4 v ds.length (ES ds)) /\ Curs wr g A n cp bs /\ w.grownBy wr (some g))
  (fun _ i _ => (intOf i).toNat)
 case atStart => exact ⟨k, [], rfl, by omega, dirOk_nil, own1, hc1, G1⟩
 case round =>
  clear own1 hc1 G1 hg1 own0
  obtain ⟨k, ds, rfl, hk, hok, Own, hc, G⟩ := hrel
  have h12 := (dirOk_pw.1 hok).1
  have hnm := dirOk_nm hok
  by_cases h0 : k = 0
  ·subst h0
   obtain ⟨A5, c5, rfl, _, _, hr5⟩ := own_vals Own.out
   go_wp2_with fail
   refine (l5Copy_any A5 ds.length c5 ds (by omega) _ hr5).mono ?_
   rintro e w2 ⟨v2, rfl, own2, hb2⟩
   go_wp2
   go_ret
   exact ⟨_, ds, rfl, hok, own_more own2 G.size, hc.below hb2, gb_below G hb2⟩
  ·have hk0 : (k : Int) > 0 := by omega
   have Hok := Lib.hid hok
   have Hnm := Lib.hid hnm
   clear hok hnm
   go_wp2_with fail
   refine (Ho.out _ (by omega) _ hc).mono ?_
   rintro e w2 ⟨b, rfl, hc2, hg2⟩
   have Own2 := Lib.hid (own_g Own.out hg2 hlt)
   have G2 := G.trans hg2
   cases b
   case true =>
    go_wp2_with fail
    refine (Hn.out _ hc2).mono ?_
    rintro e w3 ⟨s, rfl, hs, hc3, hg3⟩
    have Own3 := Lib.hid (own_g Own2.out hg3 hlt)
    have G3 := G2.trans hg3
    have sz := G3.size
    go_wp2_with fail
    refine (l5Drop_any w.heap.size ds.length _ ds Hok.out (fun e he => by have := Hnm.out e he; omega) s (by omega) w3 sz Own3.out).mono ?_
    rintro e w4 ⟨⟨L, bb, v4, n4, hP, hl, rfl, own4⟩, hb4⟩
    subst hl
    have hok4 : dirOkB L = true := by have h := dropP_ok Hok.out s; rw [hP] at h; exact h
    have hc4 := hc3.below hb4
    have G4 := gb_below G3 hb4
    have Own4 := Lib.hid own4
    clear own4 hP
    have w4 : IntKind.i64.wrap ((k : Int) - 1) = ((k - 1 : Nat) : Int) := by rw [IntKind.wrap_i64]; omega
    go_wp2
    first
     | exact ⟨⟨k - 1, L, by go_num, by omega, hok4, Own4.out, hc4, G4⟩, by simp [intOf]; omega⟩
     | (go_roundw; case rel => exact ⟨k - 1, L, by go_num, by omega, hok4, Own4.out, hc4, G4⟩; case measure => (simp [intOf]; omega))
   case false =>
    go_wp2_with fail
    refine (Hn.out _ hc2).mono ?_
    rintro e w3 ⟨s, rfl, hs, hc3, hg3⟩
    have Own3 := Lib.hid (own_g Own2.out hg3 hlt)
    have G3 := G2.trans hg3
    go_wp2_with fail
    refine (Hb.out 9 (by omega) _ hc3).mono ?_
    rintro e w5 ⟨y, rfl, _, hy, hc5, hg5⟩
    obtain ⟨hy0, hy1⟩ := hy (by omega)
    have Own5 := Lib.hid (own_g Own3.out hg5 hlt)
    have G5 := G3.trans hg5
    have sz := G5.size
    go_wp2_with fail
    refine (l5Add_any w.heap.size ds.length _ ds Hok.out (fun e he => by have := Hnm.out e he; omega) s (by omega) (1 + y) w5 sz Own5.out).mono ?_
    rintro e w4 ⟨⟨L, bb, v4, n4, hP, hl, rfl, own4⟩, hb4⟩
    subst hl
    have hok4 : dirOkB L = true := by have h := addP_ok Hok.out s (1 + y); rw [hP] at h; exact h
    have hc4 := hc5.below hb4
    have G4 := gb_below G5 hb4
    have Own4 := Lib.hid own4
    clear own4 hP
    have w4 : IntKind.i64.wrap ((k : Int) - 1) = ((k - 1 : Nat) : Int) := by rw [IntKind.wrap_i64]; omega
    go_wp2
    first
     | exact ⟨⟨k - 1, L, by go_num, by omega, hok4, Own4.out, hc4, G4⟩, by simp [intOf]; omega⟩
     | (go_roundw; case rel => exact ⟨k - 1, L, by go_num, by omega, hok4, Own4.out, hc4, G4⟩; case measure => (simp [intOf]; omega))

theorem ES_s0 : ∀ {ds : List EntD} {k : Nat} (hk : k < ds.length) (x : Int), (ES ds).set (k * 4) (.int .i64 x) = ES (ds.set k ⟨x, ds[k].i, ds[k].s, ds[k].d⟩)
 | e :: ds, 0, _, x => by rw [ES_cons]; simp only [Nat.zero_mul, List.set_cons_zero, List.getElem_cons_zero]; rfl
 | e :: ds, k + 1, hk, x => by
  have ih := ES_s0 (ds := ds) (k := k) (by simpa using hk) x
  rw [ES_cons, show (k + 1) * 4 = k * 4 + 1 + 1 + 1 + 1 by omega]
  simp only [List.set_cons_succ, List.getElem_cons_succ]
  rw [ih, ES_cons]
theorem ES_s1 : ∀ {ds : List EntD} {k : Nat} (hk : k < ds.length) (x : Int), (ES ds).set (k * 4 + 1) (.int .i64 x) = ES (ds.set k ⟨ds[k].h, x, ds[k].s, ds[k].d⟩)
 | e :: ds, 0, _, x => by rw [ES_cons]; simp only [Nat.zero_mul, Nat.zero_add, List.set_cons_zero, List.set_cons_succ, List.getElem_cons_zero]; rfl
 | e :: ds, k + 1, hk, x => by
  have ih := ES_s1 (ds := ds) (k := k) (by simpa using hk) x
  rw [ES_cons, show (k + 1) * 4 + 1 = k * 4 + 1 + 1 + 1 + 1 + 1 by omega]
  simp only [List.set_cons_succ, List.getElem_cons_succ]
  rw [ih, ES_cons]
theorem ES_s2 : ∀ {ds : List EntD} {k : Nat} (hk : k < ds.length) (x : ByteArray), (ES ds).set (k * 4 + 2) (.string x) = ES (ds.set k ⟨ds[k].h, ds[k].i, x, ds[k].d⟩)
 | e :: ds, 0, _, x => by rw [ES_cons]; simp only [Nat.zero_mul, Nat.zero_add, List.set_cons_zero, List.set_cons_succ, List.getElem_cons_zero]; rfl
 | e :: ds, k + 1, hk, x => by
  have ih := ES_s2 (ds := ds) (k := k) (by simpa using hk) x
  rw [ES_cons, show (k + 1) * 4 + 2 = k * 4 + 2 + 1 + 1 + 1 + 1 by omega]
  simp only [List.set_cons_succ, List.getElem_cons_succ]
  rw [ih, ES_cons]
theorem ES_s3 : ∀ {ds : List EntD} {k : Nat} (hk : k < ds.length) (x : Int), (ES ds).set (k * 4 + 3) (.int .i64 x) = ES (ds.set k ⟨ds[k].h, ds[k].i, ds[k].s, x⟩)
 | e :: ds, 0, _, x => by rw [ES_cons]; simp only [Nat.zero_mul, Nat.zero_add, List.set_cons_zero, List.set_cons_succ, List.getElem_cons_zero]; rfl
 | e :: ds, k + 1, hk, x => by
  have ih := ES_s3 (ds := ds) (k := k) (by simpa using hk) x
  rw [ES_cons, show (k + 1) * 4 + 3 = k * 4 + 3 + 1 + 1 + 1 + 1 by omega]
  simp only [List.set_cons_succ, List.getElem_cons_succ]
  rw [ih, ES_cons]
theorem set_sz {ds : List EntD} {k : Nat} {e' : EntD} (h : ∀ e ∈ ds, e.s.size <= 25) (he : e'.s.size <= 25) : ∀ e ∈ ds.set k e', e.s.size <= 25 := by
 intro e hm
 rcases List.mem_or_eq_of_mem_set hm with h1 | h1
 ·exact h e h1
 ·rw [h1]; exact he
theorem own_lo0 {w : World} {base n size g c : Nat} {e : TypeId} {xs : List Value} (h : w.ownsRow base e size (.slice (some ⟨g, 0, none⟩) n c) n xs) : base <= g := (h.lt g rfl).1
theorem own_hi0 {w : World} {base n size g c : Nat} {e : TypeId} {xs : List Value} (h : w.ownsRow base e size (.slice (some ⟨g, 0, none⟩) n c) n xs) : g < w.heap.size := (h.lt g rfl).2
def idx1 : List Int := [-1, 3, 12, 13]
def idx2 : List Int := [0, 100000, 100001]

theorem l5Any_any (g : Nat) (A : Option Addr) (n cp : Nat) (bs : List UInt8) (hn : n <= 9223372036854775806) (most : Int) (hm : most <= 1000) (w : World) (h : Curs w g A n cp bs) :
  Calls Tryz.prog 87 #[.pointer (some ⟨g, 0, none⟩), .int .i64 most] w fun e w' => ∃ v ds, e = .returned v /\ ds.length <= 13 /\ (∀ e ∈ ds, e.s.size <= 25) /\ w'.ownsRow w.heap.size 38 4 v ds.length (ES ds) /\ Curs w' g A n cp bs /\ w.grownBy w' (some g) := by
 have Hb := Lib.hid (fun m hm W hW => l1Below_any g A n cp bs hn m hm W hW)
 have Ho := Lib.hid (fun m hm W hW => l1Once_any g A n cp bs hn m hm W hW)
 have Hn := Lib.hid (fun W hW => l4Name_any g A n cp bs hn W hW)
 have hlt := h.lt
 go_enter Tryz.func87, Tryz.ntmps87
 go_wp2_with fail
 refine (l5Dir_any g A n cp bs hn most hm w h).mono ?_
 rintro e w1 ⟨v, ds, rfl, hok, own1, hc1, G1⟩
 have h12 := (dirOk_pw.1 hok).1
 have hnm := dirOk_nm hok
 have Own1 := Lib.hid own1
 have Hnm := Lib.hid hnm
 clear own1 hok hnm
 by_cases h0 : ds.length = 0
 ·obtain rfl : ds = [] := List.eq_nil_of_length_eq_zero h0
  obtain ⟨A5, c5, rfl, _, _, _⟩ := own_vals Own1.out
  go_wp2
  go_ret
  exact ⟨.slice A5 0 c5, [], rfl, by simp, (fun e he => by cases he), Own1.out, hc1, G1⟩
 obtain ⟨g5, c5, rfl⟩ := own_form1 Own1.out (by omega)
 have hz : ((ds.length : Int) == 0) = false := by simp [h0]
 go_wp2_with fail
 refine (Ho.out 10 (by omega) w1 hc1).mono ?_
 rintro e w2 ⟨b, rfl, hc2, hg2⟩
 have Own2 := Lib.hid (own_g Own1.out hg2 hlt)
 have G2 := G1.trans hg2
 cases b
 case false =>
  go_wp2
  go_ret
  exact ⟨_, ds, rfl, by omega, Hnm.out, Own2.out, hc2, G2⟩
 case true =>
  go_wp2_with fail
  refine (Hb.out (ds.length : Int) (by omega) w2 hc2).mono ?_
  rintro e w3 ⟨x, rfl, _, hx, hc3, hg3⟩
  obtain ⟨hx0, hx1⟩ := hx (by omega)
  obtain ⟨k, rfl⟩ : ∃ k : Nat, x = (k : Int) := ⟨x.toNat, by omega⟩
  have hk : k < ds.length := by omega
  have Own3 := Lib.hid (own_g Own2.out hg3 hlt)
  have G3 := G2.trans hg3
  clear hx
  go_wp2_with fail
  refine (Hb.out 5 (by omega) w3 hc3).mono ?_
  rintro e w4 ⟨y, rfl, _, hy, hc4, hg4⟩
  obtain ⟨hy0, hy1⟩ := hy (by omega)
  have Own4 := Lib.hid (own_g Own3.out hg4 hlt)
  have G4 := G3.trans hg4
  have lo4 := own_lo0 Own4.out
  have hi4 := own_hi0 Own4.out
  obtain ⟨_, b6, o6, hA6, _, y0, y1, y2, y3⟩ := reads_ent (Reads.of_own Own4.out) hk
  simp only [Option.some.injEq, Addr.mk.injEq, and_true] at hA6
  obtain ⟨rfl, rfl⟩ := hA6
  simp only [Nat.zero_add] at y0 y1 y2 y3
  have hsk := Hnm.out _ (List.getElem_mem hk)
  have q0 : (0 : Int) <= (k : Int) := by omega
  have q1 : (k : Int) < (ds.length : Int) := by omega
  have sz4 := G4.size
  rcases (show y = 0 ∨ y = 1 ∨ y = 2 ∨ y = 3 ∨ y = 4 by omega) with rfl | rfl | rfl | rfl | rfl
  ·have f0 := own_frozen Own4.out (k * 4)
   obtain ⟨hh, hhh⟩ : ∃ hh, ds[k].h = hh := ⟨_, rfl⟩
   rw [hhh] at y0
   go_wp2_with fail
   go_ret
   have hbz : Below w.heap.size w4 (w4.setCell ⟨g5, k * 4, none⟩ (.int .i64 (wrap64 (hh + 1)))) := (Below.refl _ _).setCell (p := ⟨g5, k * 4, none⟩) lo4 _
   exact ⟨_, ds.set k ⟨wrap64 (hh + 1), ds[k].i, ds[k].s, ds[k].d⟩, rfl, by rw [List.length_set]; omega, set_sz Hnm.out hsk, by rw [List.length_set, <- ES_s0 hk]; exact own_set Own4.out (k * 4) (.int .i64 (wrap64 (hh + 1))), hc4.bel hbz hlt, gb_bel0 G4 hbz⟩
  ·clear y0 y1 y2 y3
   go_wp2_with fail
   refine (l1PickInt_any g A n cp bs hn (some ⟨w4.heap.size, 0, none⟩) 4 4 idx1 (by omega) (by omega) _ (hc4.alloc _) (show Reads _ _ 1 _ _ _ from reads_lit w4 _ _ _ rfl) (fun ad e => by injection e with e; rw [<- e]; simp only; have := hc4.lt; omega)).mono ?_
   rintro e w5 ⟨z, rfl, _, hc5, hg5⟩
   have Own5 := Lib.hid (own_g (Own4.out.alloc _) hg5 hlt)
   have G5 := G4.trans (gb_al hg5)
   have hi5 := own_hi0 Own5.out
   obtain ⟨⟨u0, c0⟩, ⟨u1, c1⟩, ⟨u2, c2⟩, ⟨u3, c3⟩⟩ := own_cells4 Own5.out k hk
   have f0 := own_frozen Own5.out (k * 4 + 1)
   go_wp2
   go_ret
   have hbz : Below w.heap.size w5 (w5.setCell ⟨g5, k * 4 + 1, none⟩ (.int .i64 z)) := (Below.refl _ _).setCell (p := ⟨g5, k * 4 + 1, none⟩) lo4 _
   exact ⟨_, ds.set k ⟨ds[k].h, z, ds[k].s, ds[k].d⟩, rfl, by rw [List.length_set]; omega, set_sz Hnm.out hsk, by rw [List.length_set, <- ES_s1 hk]; exact own_set Own5.out (k * 4 + 1) (.int .i64 z), hc5.bel hbz hlt, gb_bel0 G5 hbz⟩
  ·clear y0 y1 y2 y3
   go_wp2_with fail
   refine (Hn.out w4 hc4).mono ?_
   rintro e w5 ⟨z, rfl, hz25, hc5, hg5⟩
   have Own5 := Lib.hid (own_g Own4.out hg5 hlt)
   have G5 := G4.trans hg5
   have hi5 := own_hi0 Own5.out
   obtain ⟨⟨u0, c0⟩, ⟨u1, c1⟩, ⟨u2, c2⟩, ⟨u3, c3⟩⟩ := own_cells4 Own5.out k hk
   have f0 := own_frozen Own5.out (k * 4 + 2)
   go_wp2
   go_ret
   have hbz : Below w.heap.size w5 (w5.setCell ⟨g5, k * 4 + 2, none⟩ (.string z)) := (Below.refl _ _).setCell (p := ⟨g5, k * 4 + 2, none⟩) lo4 _
   exact ⟨_, ds.set k ⟨ds[k].h, ds[k].i, z, ds[k].d⟩, rfl, by rw [List.length_set]; omega, set_sz Hnm.out hz25, by rw [List.length_set, <- ES_s2 hk]; exact own_set Own5.out (k * 4 + 2) (.string z), hc5.bel hbz hlt, gb_bel0 G5 hbz⟩
  ·clear y0 y1 y2 y3
   go_wp2_with fail
   refine (l1PickInt_any g A n cp bs hn (some ⟨w4.heap.size, 0, none⟩) 3 3 idx2 (by omega) (by omega) _ (hc4.alloc _) (show Reads _ _ 1 _ _ _ from reads_lit w4 _ _ _ rfl) (fun ad e => by injection e with e; rw [<- e]; simp only; have := hc4.lt; omega)).mono ?_
   rintro e w5 ⟨z, rfl, _, hc5, hg5⟩
   have Own5 := Lib.hid (own_g (Own4.out.alloc _) hg5 hlt)
   have G5 := G4.trans (gb_al hg5)
   have hi5 := own_hi0 Own5.out
   obtain ⟨⟨u0, c0⟩, ⟨u1, c1⟩, ⟨u2, c2⟩, ⟨u3, c3⟩⟩ := own_cells4 Own5.out k hk
   have f0 := own_frozen Own5.out (k * 4 + 3)
   go_wp2
   go_ret
   have hbz : Below w.heap.size w5 (w5.setCell ⟨g5, k * 4 + 3, none⟩ (.int .i64 z)) := (Below.refl _ _).setCell (p := ⟨g5, k * 4 + 3, none⟩) lo4 _
   exact ⟨_, ds.set k ⟨ds[k].h, ds[k].i, ds[k].s, z⟩, rfl, by rw [List.length_set]; omega, set_sz Hnm.out hsk, by rw [List.length_set, <- ES_s3 hk]; exact own_set Own5.out (k * 4 + 3) (.int .i64 z), hc5.bel hbz hlt, gb_bel0 G5 hbz⟩
  ·obtain ⟨e, he⟩ : ∃ e, ds[k] = e := ⟨_, rfl⟩
   rw [he] at y0 y1 y2 y3 hsk
   clear he
   go_wp2_with (at_builtin; refine wpList_app _ rfl _ _ _ rfl Tryz.el_ent (Own4.out.alloc _) rfl (reads_new (_) #[.int .i64 e.h, .int .i64 e.i, .string e.s, .int .i64 e.d] 38 4 1 rfl) rfl (by simp [Value.oneCell']) (by unfold maxLen; omega) (by omega) (by simp; omega) ?_; intro v9 w9 ow9 _ _ bw9)
   have hb9 : Below w.heap.size w4 w9 := ((Below.refl w.heap.size w4).alloc sz4 (.cells #[.int .i64 e.h, .int .i64 e.i, .string e.s, .int .i64 e.d] 38)).trans bw9
   have own9 : w9.ownsRow w.heap.size 38 4 v9 (ds ++ [e]).length (ES (ds ++ [e])) := by
    rw [List.length_append, ES_append]
    exact ow9
   go_wp2
   go_ret
   first
    | exact ⟨_, ds ++ [e], rfl, by simp; omega, (fun x hx => by rcases List.mem_append.1 hx with h1 | h1; exact Hnm.out x h1; rw [List.mem_singleton.1 h1]; exact hsk), own9, hc4.bel hb9 hlt, gb_bel0 G4 hb9⟩
    | exact ⟨_, rfl, ds ++ [e], by simp; omega, (fun x hx => by rcases List.mem_append.1 hx with h1 | h1; exact Hnm.out x h1; rw [List.mem_singleton.1 h1]; exact hsk), own9, hc4.bel hb9 hlt, gb_bel0 G4 hb9⟩

end Go.Proofs.YtjjniapamdleoaaGreatDoor
