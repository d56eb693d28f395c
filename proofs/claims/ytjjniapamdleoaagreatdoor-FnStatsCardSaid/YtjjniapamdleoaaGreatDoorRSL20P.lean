/- A path is drawn: l20Path. -/
import Derived.Test.YtjjniapamdleoaaGreatDoorRSL6Y
import Derived.Test.YtjjniapamdleoaaGreatDoorRSTextS
namespace Go.Proofs.YtjjniapamdleoaaGreatDoor
open Go Go.RowKit
set_option maxHeartbeats 8000000
set_option maxRecDepth 100000

theorem pth_sz {xs : List InoD} (hzs : ∀ x ∈ xs, ∀ e ∈ x.es, e.s.size <= 25) {a : Int} {n : Nat} {t : ByteArray} (h : Pth xs a n t) : t.size <= n * 26 := by
 induction h with
 | root => show 0 <= _; omega
 | @step x e n t hx he _ _ ih =>
  have := hzs x hx e he
  rw [ByteArray.size_append, ByteArray.size_append, str_size]
  simp only [List.length_singleton]
  omega
theorem textE_sz {T best : ByteArray} {a : Int} {es : List EntD} (hT : hasE a es = true -> T.size <= 800) (hb : best.size <= 900) (hz : ∀ e ∈ es, e.s.size <= 25) : ∀ k, (textE T a es best k).size <= 900
 | 0 => hb
 | k + 1 => by
  have ih := textE_sz (a := a) hT hb hz k
  rw [textE]
  split
  ·exact ih
  ·rename_i e he
   have hm := List.mem_of_getElem? he
   have := hz e hm
   split
   ·rename_i hd
    have h1 := hT (hasE_iff.2 ⟨e, hm, hd⟩)
    exact tpick_size _ _ _ ih (by rw [ByteArray.size_append, ByteArray.size_append, sep_size]; omega)
   ·exact ih
theorem textI_sz {xs : List InoD} {T : Int -> ByteArray} {a : Int} (hT : ∀ x ∈ xs, hasE a x.es = true -> (T x.id).size <= 800) (hz : ∀ x ∈ xs, ∀ e ∈ x.es, e.s.size <= 25) : ∀ k, (textI xs T a k).size <= 900
 | 0 => by show 0 <= _; omega
 | k + 1 => by
  have ih := textI_sz (a := a) hT hz k
  rw [textI]
  split
  ·exact ih
  ·rename_i x hx
   have hm := List.mem_of_getElem? hx
   exact textE_sz (hT _ hm) ih (hz x hm) _
theorem path_sz {V : VolD} (sm : SmV V) (a : Int) : (pathP V a).1.size <= 1000 := by
 have hz : ∀ x ∈ V.xs, ∀ e ∈ x.es, e.s.size <= 25 := fun x hx => (sm.2 x hx).2.1
 have hz2 : ∀ x ∈ V.xs, ∀ e ∈ x.es, e.s.size <= 2000000 := fun x hx e he => by have := hz x hx e he; omega
 unfold pathP
 split
 ·rename_i h
  have hv := volOkB_iff.1 h.1
  split
  ·show 1 <= 1000; omega
  ·refine Nat.le_trans (textI_sz (fun x hx hh => ?_) hz _) (by omega)
   have hd := up_is hv hx hh
   rw [txtT_dir hv hz2 hd]
   obtain ⟨n, t, hp⟩ := hv.pth hx
   have h3 := pth_sz hz hp
   have h4 := hp.short hv hd
   rw [txt_is hv hp hd]
   omega
 ·show 0 <= 1000; omega
def idOf (xs : List InoD) (k : Nat) : Int := (xs.map (·.id)).getD k 0
theorem YR.idAt {w : World} {lo g c k : Nat} {xs : List InoD} {vs : List Value} (h : YR w lo g c xs vs) (hk : k < xs.length) : w.cell? ⟨g, k * 5, none⟩ = some (.int .i64 (idOf xs k)) := by
 obtain ⟨_, _, _, z0, _⟩ := h.at_ hk
 rw [z0]
 simp [idOf, List.getD, hk]
def pths : List ByteArray := [⟨#[47]⟩, ⟨#[47, 97]⟩, ⟨#[47, 98, 47, 99]⟩, ⟨#[97]⟩, ⟨#[]⟩, ⟨#[47, 46, 46]⟩, ⟨#[47, 97, 47, 46, 46, 47, 98]⟩, ⟨#[47, 255]⟩, ⟨#[47, 65]⟩, ⟨#[47, 100, 47, 101, 47, 102]⟩]
theorem pths_sz : ∀ t ∈ pths, t.size <= 25 := by
 have h : pths.all (fun t => decide (t.size <= 25)) = true := by decide +kernel
 intro t ht
 exact of_decide_eq_true (List.all_eq_true.1 h t ht)

theorem l20Path_any (g : Nat) (A : Option Addr) (n cp : Nat) (bs : List UInt8) (hn : n <= 9223372036854775806) (lo : Nat) (hlo : g < lo) (v : Value) (V : VolD) (sm : SmV V) (hpos : 0 < V.xs.length) (w : World) (hY : YV w lo v V) (h : Curs w g A n cp bs) :
  Calls Tryz.prog 46 #[.pointer (some ⟨g, 0, none⟩), v] w fun e w' => ∃ s, e = .returned (.string s) /\ s.size <= 2000 /\ Curs w' g A n cp bs /\ w.grownBy w' (some g) := by
 have hsz : szV V <= 1048576 := by have := sm.sz; omega
 have Hps := Lib.hid (path_sz sm)
 have hn17 := sm.1
 have Hb := Lib.hid (fun m hm W hW => l1Below_any g A n cp bs hn m hm W hW)
 have Ho := Lib.hid (fun m hm W hW => l1Once_any g A n cp bs hn m hm W hW)
 have Hnm := Lib.hid (fun W hW => l4Name_any g A n cp bs hn W hW)
 have Hpo := Lib.hid (fun v b W hW => pathOf_spec v V hsz b W hW)
 obtain ⟨gy, c, us, rfl, hyr⟩ := hY
 obtain ⟨nx, xs⟩ := V
 simp only at Hps Hpo hn17 hpos hyr ⊢
 have hgl := h.lt
 have hgy := hyr.hi
 clear sm hsz
 obtain ⟨w1, hW1⟩ : ∃ W, w.alloc (.cells #[.int .i64 nx, .slice (some ⟨gy, 0, none⟩) xs.length c] 26) = W := ⟨_, rfl⟩
 have a1 : Below w.heap.size w w1 := by rw [<- hW1]; exact belA (bel0 w) _
 have kV1 : Blk w1 w.heap.size 26 #[.int .i64 nx, .slice (some ⟨gy, 0, none⟩) xs.length c] := by rw [<- hW1]; exact Blk.new' _ _ _ _ rfl
 have C1 := h.below a1
 have Y1 := hyr.below a1
 have G1 : w.grownBy w1 (some g) := gb_below (grown_refl _ _) a1
 have HW1 := Lib.hid hW1
 clear hW1 hyr h a1
 have v_1 := kV1.get 1 rfl
 have q0 : (0 : Int) < ((xs.length : Nat) : Int) := by omega
 go_enter Tryz.func46, Tryz.ntmps46
 go_wp2_with fail
 rw [HW1.out]
 clear HW1
 refine (Ho.out 3 (by omega) w1 C1).mono ?_
 rintro e w2 ⟨b2, rfl, C2, g2⟩
 have kV2 := blk_gV kV1 g2 (by omega)
 have Y2 := Y1.grownC g2 hlo
 have G2 := G1.trans g2
 clear v_1 kV1 C1 Y1 G1 g2
 cases b2
 rotate_left
 ·skip
  have hlt2 := C2.lt
  go_wp2_with fail
  refine (l1Pick_any g A n cp bs hn (some ⟨w2.heap.size, 0, none⟩) 10 10 pths (by omega) (by omega) _ (C2.alloc _) (show Reads _ _ 1 _ _ _ from reads_lit w2 _ _ _ rfl) (fun ad e => by injection e with e; rw [<- e]; simp only; omega)).mono ?_
  rintro e wn ⟨s, rfl, hs, Cn, gn⟩
  have hs25 := pths_sz s hs
  go_wp2
  go_ret
  exact ⟨_, rfl, by omega, Cn, G2.trans (gb_al gn)⟩
 go_upto_region 2 with fail
 refine wp_region_held_drew (S := fun w' => w'.cell? ⟨w.heap.size, 0, none⟩ = some (.int .i64 nx) /\ w'.cell? ⟨w.heap.size, 1, none⟩ = some (.slice (some ⟨gy, 0, none⟩) xs.length c)) (by kernel_rfl) (by exact ⟨kV2.get 0 rfl, kV2.get 1 rfl⟩) (fun hHeld => ?_)
 clear hHeld
 refine foldH ?_
 intro r hr0
 have bw : w2.grownBy r (some g) := by rw [hr0]; exact gb_below (grown_refl _ _) (bel0 w2).drew
 have kV : Blk r w.heap.size 26 #[.int .i64 nx, .slice (some ⟨gy, 0, none⟩) xs.length c] := by rw [hr0]; exact kV2.drew
 have pC : Curs r g A n cp bs := by rw [hr0]; exact (C2.below (bel0 w2).drew)
 have pY : YR r lo gy c xs us := by rw [hr0]; exact (Y2.below (bel0 w2).drew)
 clear hr0
 apply mem4_nw (P := fun kx q => w2.grownBy q (some g) /\ Blk q w.heap.size 26 #[.int .i64 nx, .slice (some ⟨gy, 0, none⟩) xs.length c] /\ Curs q g A n cp bs /\ YR q lo gy c xs us /\ (0 : Int) <= (kx : Int) /\ (kx : Int) < ((xs.length : Nat) : Int) /\ kx < xs.length)
 case use =>
  intro key_lp_7_10
  apply mem4_nw (P := fun kx q => w2.grownBy q (some g) /\ Blk q w.heap.size 26 #[.int .i64 nx, .slice (some ⟨gy, 0, none⟩) xs.length c] /\ Curs q g A n cp bs /\ YR q lo gy c xs us /\ (0 : Int) <= (kx : Int) /\ (kx : Int) < ((xs.length : Nat) : Int) /\ kx < xs.length)
  case use =>
   intro key_lp_7
   refine tkW_ 0 ?_ (hS := by exact ⟨kV.get 0 rfl, kV.get 1 rfl⟩)
   refine tkW_ 1 ?_ (hS := by exact ⟨kV.get 0 rfl, kV.get 1 rfl⟩)
   refine tkW_ 2 ?_ (hS := by exact ⟨kV.get 0 rfl, kV.get 1 rfl⟩)
   refine tkW_ 3 ?_ (hS := by exact ⟨kV.get 0 rfl, kV.get 1 rfl⟩)
   refine tkW_ 4 ?_ (hS := by exact ⟨kV.get 0 rfl, kV.get 1 rfl⟩)
   refine tkW_ 5 ?_ (hS := by exact ⟨kV.get 0 rfl, kV.get 1 rfl⟩)
   refine tkW_ 6 ?_ (hS := by exact ⟨kV.get 0 rfl, kV.get 1 rfl⟩)
   refine rd1_ 7 (fun K hK => ?br30008)
   case br30008 =>
    go_simp
    go_at_call 60
    refine (Hb.out ((xs.length : Nat) : Int) (by omega) _ pC).mono ?_
    rintro e q ⟨x, rfl, _, hx, hC, hg⟩
    have bw2 := bw.trans hg
    have kV2 := blk_gV kV hg (by omega)
    have pY2 : YR q lo gy c xs us := (YR.grownC pY hg hlo)
    obtain ⟨hx0, hx1⟩ := hx (by omega)
    obtain ⟨kx, rfl⟩ : ∃ q : Nat, x = (q : Int) := ⟨x.toNat, by omega⟩
    have pC2 := hC
    have hk0 : (0 : Int) <= (kx : Int) := hx0
    have hk1 : (kx : Int) < ((xs.length : Nat) : Int) := hx1
    have hkx : kx < xs.length := by omega
    refine hK.out _ _ (by exact ⟨kV2.get 0 rfl, kV2.get 1 rfl⟩) (fun _ => ?_)
    clear hK K
    try simp only [Act.put, pT_, pZ_, pS_]
    refine tkW_ 8 ?_ (hS := by exact ⟨kV2.get 0 rfl, kV2.get 1 rfl⟩)
    refine tkW_ 9 ?_ (hS := by exact ⟨kV2.get 0 rfl, kV2.get 1 rfl⟩)
    exact key_lp_7 kx q ⟨bw2, kV2, pC2, pY2, hk0, hk1, hkx⟩
  case key =>
   rintro kx r ⟨bw, kV, pC, pY, hk0, hk1, hkx⟩
   try dsimp only
   refine rd1_ 10 (fun K hK => ?br30011)
   case br30011 =>
    have x_0 := pY.idAt hkx
    go_simp
    refine hK.out _ _ (by exact ⟨kV.get 0 rfl, kV.get 1 rfl⟩) (fun _ => ?_)
    clear hK K
    try simp only [Act.put, pT_, pZ_, pS_]
    exact key_lp_7_10 kx r ⟨bw, kV, pC, pY, hk0, hk1, hkx⟩
 case key =>
  rintro kx r ⟨bw, kV, pC, pY, hk0, hk1, hkx⟩
  try dsimp only
  refine rd1_ 11 (fun K hK => ?br30012)
  case br30012 =>
   go_simp
   go_at_call 22
   refine (Hpo.out _ (idOf xs kx) _ (pY.isC nx)).mono ?_
   rintro e w5 ⟨rfl, hb5⟩
   have hps := Hps.out (idOf xs kx)
   obtain ⟨pp, hpp⟩ : ∃ z, pathP ⟨nx, xs⟩ (idOf xs kx) = z := ⟨_, rfl⟩
   rw [hpp] at hps ⊢
   obtain ⟨pt, pb⟩ := pp
   simp only at hps ⊢
   clear hpp
   have k5 := kV.below hb5 kV.lt
   have C5 := pC.below hb5
   have G5 := gb_below (G2.trans bw) hb5
   refine hK.out _ _ (by exact ⟨k5.get 0 rfl, k5.get 1 rfl⟩) (fun _ => ?_)
   clear hK K
   try simp only [Act.put, pT_, pZ_, pS_]
   refine tkW_ 12 ?_ (hS := by exact ⟨k5.get 0 rfl, k5.get 1 rfl⟩)
   refine tkW_ 13 ?_ (hS := by exact ⟨k5.get 0 rfl, k5.get 1 rfl⟩)
   refine tkW_ 14 ?_ (hS := by exact ⟨k5.get 0 rfl, k5.get 1 rfl⟩)
   refine tkW_ 15 ?_ (hS := by exact ⟨k5.get 0 rfl, k5.get 1 rfl⟩)
   refine tkW_ 16 ?_ (hS := by exact ⟨k5.get 0 rfl, k5.get 1 rfl⟩)
   refine wpAnyH_done (by kernel_rfl) ?_ _
   clear hk0 hk1 hkx bw pC pY kV hb5 C2 Y2 G2 kV2
   cases pb
   ·skip
    have hlt5 := C5.lt
    go_wp2_with fail
    refine (l1Pick_any g A n cp bs hn (some ⟨w5.heap.size, 0, none⟩) 10 10 pths (by omega) (by omega) _ (C5.alloc _) (show Reads _ _ 1 _ _ _ from reads_lit w5 _ _ _ rfl) (fun ad e => by injection e with e; rw [<- e]; simp only; omega)).mono ?_
    rintro e wn ⟨s, rfl, hs, Cn, gn⟩
    have hs25 := pths_sz s hs
    go_wp2
    go_ret
    exact ⟨_, rfl, by omega, Cn, G5.trans (gb_al gn)⟩
   go_wp2_with fail
   refine (Hb.out 6 (by omega) w5 C5).mono ?_
   rintro e w6 ⟨x, rfl, _, hx, C6, g6⟩
   have hx6 := hx (by omega)
   have G6 := G5.trans g6
   clear hx C5 G5 g6 k5
   by_cases e0 : x = 0
   ·subst e0
    clear hx6
    have u1 : ¬ 9223372036854775807 < pt.size + 1 := by omega
    go_wp2_with fail
    refine (Hnm.out w6 C6).mono ?_
    rintro e w7 ⟨s, rfl, hs, C7, g7⟩
    have u2 : ¬ 9223372036854775807 < pt.size + 1 + s.size := by omega
    go_wp2
    go_ret
    exact ⟨_, rfl, by rw [ByteArray.size_append, ByteArray.size_append]; have h2 : (⟨#[47]⟩ : ByteArray).size = 1 := rfl; omega, C7, G6.trans g7⟩
   have f0 : (x == 0) = false := by simpa using e0
   clear e0
   by_cases e1 : x = 1
   ·subst e1
    clear hx6
    have u1 : ¬ 9223372036854775807 < pt.size + 4 := by omega
    go_wp2_with fail
    refine (Hnm.out w6 C6).mono ?_
    rintro e w7 ⟨s, rfl, hs, C7, g7⟩
    have u2 : ¬ 9223372036854775807 < pt.size + 4 + s.size := by omega
    go_wp2
    go_ret
    exact ⟨_, rfl, by rw [ByteArray.size_append, ByteArray.size_append]; have h2 : (⟨#[47, 46, 46, 47]⟩ : ByteArray).size = 4 := rfl; omega, C7, G6.trans g7⟩
   have f1 : (x == 1) = false := by simpa using e1
   clear e1
   by_cases e2 : x = 2
   ·subst e2
    clear hx6
    have u1 : ¬ 9223372036854775807 < 1 + pt.size := by omega
    have u2 : ¬ 9223372036854775807 < 1 + pt.size + 3 := by omega
    go_wp2
    go_ret
    exact ⟨_, rfl, by rw [ByteArray.size_append, ByteArray.size_append]; have h2 : (⟨#[47]⟩ : ByteArray).size = 1 := rfl; have h3 : (⟨#[47, 47, 46]⟩ : ByteArray).size = 3 := rfl; omega, C6, G6⟩
   have f2 : (x == 2) = false := by simpa using e2
   clear e2
   go_wp2
   go_ret
   exact ⟨_, rfl, by omega, C6, G6⟩

end Go.Proofs.YtjjniapamdleoaaGreatDoor
