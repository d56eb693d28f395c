/- A volume of one's own is read and written: l6Ents, l6With, l6Gone, l6Less. -/
import Derived.Test.YtjjniapamdleoaaGreatDoorRCL6C
import Derived.Test.YtjjniapamdleoaaGreatDoorRCRegH
import Derived.Test.YtjjniapamdleoaaGreatDoorRCDraw
namespace Go.Proofs.YtjjniapamdleoaaGreatDoor
open Go Go.RowKit
set_option maxHeartbeats 4000000
set_option maxRecDepth 100000

theorem own_cell5 {w : World} {base : Nat} {e : TypeId} {n g c : Nat} {xs : List Value} (h : w.ownsRow base e 5 (.slice (some ⟨g, 0, none⟩) n c) n xs) {k : Nat} (hk : k < n) (j : Nat) (hj : j < 5) : ∃ u, w.cell? ⟨g, k * 5 + j, none⟩ = some u := by
 have hl := h.1
 exact ⟨xs[k * 5 + j]'(by omega), by rw [h.cellAt (k * 5 + j) (by omega)]; exact List.getElem?_eq_getElem (by omega)⟩
theorem YR.atK {w : World} {lo g c : Nat} {nx : Int} {xs : List InoD} {vs : List Value} (h : YR w lo g c xs vs) (hn : xs.length <= 10000000) {a : Int} {k : Nat} (hp : plc xs a = (k : Int)) (W : World) (hW : Below w.heap.size w W) :
  Calls Tryz.prog 54 #[.agg #[.int .i64 nx, .slice (some ⟨g, 0, none⟩) xs.length c], .int .i64 a] W fun e w' => e = .returned (.int .i64 (k : Int)) /\ Below W.heap.size W w' := by
 have h1 := l6At_any _ ⟨nx, xs⟩ hn a W ((h.isC nx).next hW).is
 simp only [hp] at h1
 exact h1
theorem YR.farV {w : World} {lo g c b : Nat} {cs : Array Value} {xs : List InoD} {vs : List Value} (h : YR w lo g c xs vs) (hb : Blk w b 26 cs) (j : Nat) (u : Value) : YR (w.setCell ⟨b, j, none⟩ u) lo g c xs vs :=
 ⟨h.1.kept (only_setCell (p := ⟨b, j, none⟩) (grown_refl w (some b)) (.inl rfl) u) (.inr (own_blk_ne h.1 hb (by decide))), h.2.farV hb j u⟩
theorem mem4_w {G P : (World) -> Prop} {R : Prop} (use : (∀ (x0 : World), P x0 -> G x0) -> R) (key : ∀ (x0 : World), P x0 -> G x0) : R := use key
theorem l6With_own (lo g c : Nat) (nx : Int) (xs : List InoD) (vs : List Value) (a : Int) (k : Nat) (hk : k < xs.length) (ve : Value) (es : List EntD) (w : World)
  (hAt : ∀ W, Below w.heap.size w W -> Calls Tryz.prog 54 #[.agg #[.int .i64 nx, .slice (some ⟨g, 0, none⟩) xs.length c], .int .i64 a] W fun e w' => e = .returned (.int .i64 (k : Int)) /\ Below W.heap.size W w')
  (hI : w.ownsRow lo 36 5 (.slice (some ⟨g, 0, none⟩) xs.length c) xs.length (IC xs vs)) (hX : OwnX w lo xs vs k) (hv : w.ownsRow lo 38 4 ve es.length (ES es)) :
  Calls Tryz.prog 221 #[.agg #[.int .i64 nx, .slice (some ⟨g, 0, none⟩) xs.length c], .int .i64 a, ve] w fun e w' => e = .returned (.agg #[.int .i64 nx, .slice (some ⟨g, 0, none⟩) xs.length c]) /\ YR w' lo g c (ptE xs k es) (vs.set k ve) /\ w.grownBy w' (some g) := by
 obtain ⟨Ae, ce, rfl, _⟩ := own_vals hv
 have HAt := Lib.hid hAt
 have HI := Lib.hid hI
 have HX := Lib.hid hX
 have HV := Lib.hid hv
 have hgw := hI.lt g rfl
 have q0 : (0 : Int) <= (k : Int) := by omega
 have q1 : (k : Int) < ((xs.length : Nat) : Int) := by omega
 clear hAt hI hX hv
 obtain ⟨w1, hW1⟩ : ∃ W, (w.alloc (.cells #[.int .i64 nx, .slice (some ⟨g, 0, none⟩) xs.length c] 26)).alloc (.cells #[.int .i64 0, .slice none 0 0] 26) = W := ⟨_, rfl⟩
 have BW1 : Below w.heap.size w w1 := by rw [<- hW1]; exact belA (belA (bel0 w) _) _
 have s1 : w1.heap.size = w.heap.size + 2 := by rw [<- hW1]; simp
 have kV : Blk w1 w.heap.size 26 #[.int .i64 nx, .slice (some ⟨g, 0, none⟩) xs.length c] := by rw [<- hW1]; exact (Blk.new' _ _ _ _ rfl).alloc _
 have kR : Blk w1 (w.heap.size + 1) 26 #[.int .i64 0, .slice none 0 0] := by rw [<- hW1]; exact Blk.new' _ _ _ _ (by simp)
 have HW1 := Lib.hid hW1
 clear hW1
 go_enter Tryz.func221, Tryz.ntmps221
 go_upto_region 1 with fail
 rw [HW1.out]
 clear HW1
 obtain ⟨g0, hg0⟩ : ∃ g0, g0 = w1.heap.size := ⟨_, rfl⟩
 have S1 := Lib.hid s1
 clear s1
 refine wp_region_held_drew (S := fun w' => w'.cell? ⟨w.heap.size, 0, none⟩ = some (.int .i64 nx) /\ w'.cell? ⟨w.heap.size, 1, none⟩ = some (.slice (some ⟨g, 0, none⟩) xs.length c)) (by kernel_rfl) (by exact ⟨kV.get 0 rfl, kV.get 1 rfl⟩) (fun hHeld => ?_)
 clear hHeld
 refine foldH ?_
 intro r hr0
 have bw : w1.grownBy r (some g0) := by rw [hr0]; exact gb_below (grown_refl _ _) (bel0 w1).drew
 have kV : Blk r w.heap.size 26 #[.int .i64 nx, .slice (some ⟨g, 0, none⟩) xs.length c] := by rw [hr0]; exact kV.drew
 have kR : Blk r (w.heap.size + 1) 26 #[.int .i64 0, .slice none 0 0] := by rw [hr0]; exact kR.drew
 clear hr0
 apply mem4_w (P := fun  q => w1.grownBy q (some g0) /\ Blk q (w.heap.size + 1) 26 #[.int .i64 0, .slice none 0 0] /\ Blk q w.heap.size 26 #[.int .i64 nx, .slice (some ⟨g, 0, none⟩) xs.length c])
 case use =>
  intro key_wi_4
  refine tkW_ 0 ?_ (hS := by exact ⟨kV.get 0 rfl, kV.get 1 rfl⟩)
  refine tkW_ 1 ?_ (hS := by exact ⟨kV.get 0 rfl, kV.get 1 rfl⟩)
  refine tkW_ 2 ?_ (hS := by exact ⟨kV.get 0 rfl, kV.get 1 rfl⟩)
  refine tkW_ 3 ?_ (hS := by exact ⟨kV.get 0 rfl, kV.get 1 rfl⟩)
  refine tkW_ 5 ?_ (hS := by exact ⟨kV.get 0 rfl, kV.get 1 rfl⟩)
  refine rd1_ 4 (fun K hK => ?br1006)
  case br1006 =>
   go_simp
   go_at_call 54
   refine (HAt.out _ (belG BW1 bw (by have := S1.out; omega))).mono ?_
   rintro e q ⟨rfl, hb⟩
   have bw2 := gb_below bw hb
   have kV2 := kV.below hb kV.lt
   have kR2 := kR.below hb kR.lt
   refine hK.out _ _ (by exact ⟨kV2.get 0 rfl, kV2.get 1 rfl⟩) (fun _ => ?_)
   clear hK K
   try simp only [Act.put, pT_, pZ_, pS_]
   refine tkW_ 6 ?_ (hS := by exact ⟨kV2.get 0 rfl, kV2.get 1 rfl⟩)
   refine tkW_ 7 ?_ (hS := by exact ⟨kV2.get 0 rfl, kV2.get 1 rfl⟩)
   exact key_wi_4  q ⟨bw2, kR2, kV2⟩
 case key =>
  rintro  r ⟨bw, kR, kV⟩
  try dsimp only
  refine rd1_ 8 (fun K hK => ?br1009)
  case br1009 =>
   have B9 : Below w.heap.size w r := belG BW1 bw (by have := S1.out; omega)
   have I9 := own_below HI.out B9 (Nat.le_refl _)
   have X9 := HX.out.below B9
   have V9 := own_below HV.out B9 (Nat.le_refl _)
   obtain ⟨u4, z4⟩ := own_cell5 I9 hk 4 (by omega)
   have f4 := own_frozen I9 (k * 5 + 4)
   have Y9 := YR.putE I9 X9 hk V9
   have kV9 := kV.far (p := ⟨g, k * 5 + 4, none⟩) (show w.heap.size ≠ g by omega) (.slice Ae es.length ce)
   have kR9 := kR.far (p := ⟨g, k * 5 + 4, none⟩) (show w.heap.size + 1 ≠ g by omega) (.slice Ae es.length ce)
   obtain ⟨w9, hw9⟩ : ∃ W, r.setCell ⟨g, k * 5 + 4, none⟩ (.slice Ae es.length ce) = W := ⟨_, rfl⟩
   rw [hw9] at Y9 kV9 kR9
   have G9 : w.grownBy w9 (some g) := by rw [<- hw9]; exact only_sc (gb_any B9) _ _
   go_simp
   refine hK.out _ _ (by first | exact ⟨kV9.get 0 rfl, kV9.get 1 rfl⟩ | (rw [hw9]; exact ⟨kV9.get 0 rfl, kV9.get 1 rfl⟩)) (fun _ => ?_)
   clear hK K
   try simp only [Act.put, pT_, pZ_, pS_]
   try rw [hw9]
   clear hw9 kV kR bw I9 X9 V9 z4 f4 B9
   refine wpAnyH_done (by kernel_rfl) ?_ _
   obtain ⟨v0, v1⟩ := kV9.g2
   obtain ⟨r0, r1⟩ := kR9.g2
   obtain ⟨f0, f1⟩ := kR9.f2
   have lR := kR9.lt
   have lV := kV9.lt
   have hgY := Y9.hi
   go_wp2
   have kF := (kR9.put 0 (.int .i64 nx) #[.int .i64 nx, .slice none 0 0] rfl).put 1 (.slice (some ⟨g, 0, none⟩) xs.length c) #[.int .i64 nx, .slice (some ⟨g, 0, none⟩) xs.length c] rfl
   obtain ⟨x0, x1⟩ := kF.g2
   refine bodyPost_ret (v := .agg #[.int .i64 nx, .slice (some ⟨g, 0, none⟩) xs.length c]) (by simp [results, Tryz.results221, go_sem, x0, x1]) rfl ⟨rfl, (Y9.farV kR9 0 _).farV (kR9.put 0 (.int .i64 nx) #[.int .i64 nx, .slice none 0 0] rfl) 1 _, ?_⟩
   exact gb_bel0 G9 (((Below.refl w.heap.size _).setCell (p := ⟨w.heap.size + 1, 0, none⟩) (Nat.le_succ _) _).setCell (p := ⟨w.heap.size + 1, 1, none⟩) (Nat.le_succ _) _)
theorem l6Ents_own (lo g c : Nat) (nx : Int) (xs : List InoD) (vs : List Value) (hn : xs.length <= 10000000) (a : Int) (k : Nat) (hk : k < xs.length) (hp : plc xs a = (k : Int)) (w : World) (h : YR w lo g c xs vs) :
  Calls Tryz.prog 220 #[.agg #[.int .i64 nx, .slice (some ⟨g, 0, none⟩) xs.length c], .int .i64 a] w fun e w' => ∃ v, vs[k]? = some v /\ e = .returned v /\ w'.ownsRow lo 38 4 v xs[k].es.length (ES xs[k].es) /\ Below w.heap.size w w' := by
 have HAt := Lib.hid (fun W hW => h.atK (nx := nx) hn hp W hW)
 obtain ⟨v, hv, hrow, _, _, _, _, z4'⟩ := h.at_ hk
 have hgw := h.hi
 obtain ⟨Ae, ce, rfl, _⟩ := own_vals hrow
 have HV := Lib.hid hv
 have HR := Lib.hid hrow
 have q0 : (0 : Int) <= (k : Int) := by omega
 have q1 : (k : Int) < ((xs.length : Nat) : Int) := by omega
 obtain ⟨m, hm⟩ : ∃ m, xs[k].es.length = m := ⟨_, rfl⟩
 rw [hm] at z4' HV HR ⊢
 clear hv hrow h hp hm
 obtain ⟨w1, hW1⟩ : ∃ W, w.alloc (.cells #[.int .i64 nx, .slice (some ⟨g, 0, none⟩) xs.length c] 26) = W := ⟨_, rfl⟩
 have BW1 : Below w.heap.size w w1 := by rw [<- hW1]; exact belA (bel0 w) _
 have kV : Blk w1 w.heap.size 26 #[.int .i64 nx, .slice (some ⟨g, 0, none⟩) xs.length c] := by rw [<- hW1]; exact Blk.new' _ _ _ _ rfl
 obtain ⟨v0, v1⟩ := kV.g2
 have z4 := kp_ BW1 z4'
 have HW1 := Lib.hid hW1
 clear hW1 z4' kV
 go_enter Tryz.func220, Tryz.ntmps220
 go_wp2_with fail
 rw [HW1.out]
 clear HW1
 go_region_held3 (fun w' => w'.cell? ⟨w.heap.size, 0, none⟩ = some (.int .i64 nx) /\ w'.cell? ⟨w.heap.size, 1, none⟩ = some (.slice (some ⟨g, 0, none⟩) xs.length c) /\ w'.cell? ⟨g, k * 5 + 4, none⟩ = some (.slice Ae m ce))
  (first | go_keep | (refine ⟨keep1 hb5 ?_, keep1 hb5 ?_, keep1 hb5 ?_⟩ <;> go_keep))
  (first | (go_at_call 54; refine (HAt.out _ BW1.drew).mono ?_; rintro e w5 ⟨rfl, hb5⟩))
 go_wp2
 go_ret
 exact ⟨_, HV.out, rfl, own_below HR.out (belN BW1.drew hb5) (Nat.le_refl _), belN BW1.drew hb5⟩
theorem take_filt {xs : List InoD} {p : InoD -> Bool} {k : Nat} (hk : k < xs.length) : (xs.take (k + 1)).filter p = (xs.take k).filter p ++ (if p xs[k] then [xs[k]] else []) := by
 rw [List.take_succ_eq_append_getElem hk, List.filter_append]
 congr 1
 rw [List.filter_cons]
 split <;> rfl

theorem l6Gone_own (lo g c : Nat) (nx : Int) (xs : List InoD) (vs : List Value) (hn : xs.length <= 100000) (a : Int) (hroot : ∃ x ∈ xs, x.id ≠ a) (w : World) (h : YR w lo g c xs vs) :
  Calls Tryz.prog 241 #[.agg #[.int .i64 nx, .slice (some ⟨g, 0, none⟩) xs.length c], .int .i64 a] w fun e w' => ∃ g' c' us, e = .returned (.agg #[.int .i64 nx, .slice (some ⟨g', 0, none⟩) (xs.filter fun y => y.id != a).length c']) /\ YR w' lo g' c' (xs.filter fun y => y.id != a) us /\ Below w.heap.size w w' := by
 have H := Lib.hid h
 have Hroot := Lib.hid hroot
 have hgw := h.hi
 clear h hroot
 obtain ⟨w1, hW1⟩ : ∃ W, (w.alloc (.cells #[.int .i64 nx, .slice (some ⟨g, 0, none⟩) xs.length c] 26)).alloc (.cells #[.int .i64 0, .slice none 0 0] 26) = W := ⟨_, rfl⟩
 have BW1 : Below w.heap.size w w1 := by rw [<- hW1]; exact belA (belA (bel0 w) _) _
 have s1 : w1.heap.size = w.heap.size + 2 := by rw [<- hW1]; simp
 have kV : Blk w1 w.heap.size 26 #[.int .i64 nx, .slice (some ⟨g, 0, none⟩) xs.length c] := by rw [<- hW1]; exact (Blk.new' _ _ _ _ rfl).alloc _
 have kR : Blk w1 (w.heap.size + 1) 26 #[.int .i64 0, .slice none 0 0] := by rw [<- hW1]; exact Blk.new' _ _ _ _ (by simp)
 have HW1 := Lib.hid hW1
 have S1 := Lib.hid s1
 clear hW1 s1
 go_enter Tryz.func241, Tryz.ntmps241
 go_upto_region 1 with fail
 rw [HW1.out]
 clear HW1
 have hlt := kR.lt
 go_wp2
 go_loopw [5, 6] (fun v i wr => ∃ (k : Nat) (us : List Value), k <= xs.length /\ i = .int .i64 (k : Int) /\ Blk wr w.heap.size 26 #[.int .i64 nx, .slice (some ⟨g, 0, none⟩) xs.length c] /\ Blk wr (w.heap.size + 1) 26 #[.int .i64 0, .slice none 0 0] /\ wr.ownsRow (w.heap.size + 2) 36 5 v ((xs.take k).filter fun y => y.id != a).length (IC ((xs.take k).filter fun y => y.id != a) us) /\ OwnV wr lo ((xs.take k).filter fun y => y.id != a) us /\ Below w.heap.size w wr) (fun _ i _ => xs.length - (intOf i).toNat)
 case atStart => exact ⟨0, [], by omega, rfl, kV.alloc _, kR.alloc _, by have h := World.ownsRow_lit (base := w.heap.size + 2) (e := 36) (size := 5) w1 #[] 0 (by have := S1.out; omega) (by unfold maxLen; omega) rfl; exact h, OwnV.nil_ _ _, belA BW1 _⟩
 case round =>
  clear kV kR
  obtain ⟨k, us, hk, rfl, kV, kR, hown, hrows, hbel⟩ := hrel
  obtain ⟨v0, v1⟩ := kV.g2
  have ltV := kV.lt
  have ltR := kR.lt
  have s1 := S1.out
  by_cases hlt : k < xs.length
  ·obtain ⟨v2, _, hvo, z0, z1, z2, z3, z4⟩ := (H.out.below hbel).at_ hlt
   obtain ⟨Ae, ce, rfl, _⟩ := own_vals hvo
   have q0 : (0 : Int) <= (k : Int) := by omega
   have q1 : (k : Int) < ((xs.length : Nat) : Int) := by omega
   have Hft := Lib.hid (take_filt (p := fun y => y.id != a) hlt)
   obtain ⟨x, hx⟩ : ∃ x, xs[k] = x := ⟨_, rfl⟩
   rw [hx] at z0 z1 z2 z3 z4 hvo Hft
   clear hx
   obtain ⟨id, kd, ln, s, es⟩ := x
   simp only at z0 z1 z2 z3 z4 hvo Hft
   have Hown := Lib.hid hown
   have Hrows := Lib.hid hrows
   have Hvo := Lib.hid hvo
   obtain ⟨D, d, rfl, _⟩ := own_vals hown
   clear hown hrows hvo s1
   by_cases he : id = a
   ·have t0 : (id != a) = false := by rw [he, bne_self_eq_false]
    have Hft2 := Lib.hid (show (xs.take (k + 1)).filter (fun y => y.id != a) = (xs.take k).filter (fun y => y.id != a) by rw [Hft.out, t0]; simp)
    clear he
    go_wp2
    go_roundw
    case rel => exact ⟨k + 1, us, by omega, by go_num, kV, kR, by rw [Hft2.out]; exact Hown.out, by rw [Hft2.out]; exact Hrows.out, hbel⟩
    case measure => simp [intOf]; omega
   ·have t0 : (id != a) = true := by simpa using he
    have Hft2 := Lib.hid (show (xs.take (k + 1)).filter (fun y => y.id != a) = (xs.take k).filter (fun y => y.id != a) ++ [⟨id, kd, ln, s, es⟩] by rw [Hft.out, t0]; simp)
    have hml : ((xs.take k).filter fun y => y.id != a).length <= xs.length := Nat.le_trans (List.length_filter_le _ _) (by rw [List.length_take]; omega)
    clear he
    go_wp2_with (at_builtin; refine wpList_app _ rfl _ _ _ rfl Tryz.el_ino (Hown.out.alloc (.cells #[.int .i64 id, .int .i64 kd, .int .i64 ln, .string s, .slice Ae es.length ce] 36)) rfl (reads_new _ #[.int .i64 id, .int .i64 kd, .int .i64 ln, .string s, .slice Ae es.length ce] 36 5 1 rfl) rfl (by simp [Value.oneCell']) (by unfold maxLen; omega) (by omega) (by have := S1.out; have := hbel.size; simp; omega) ?_; intro v9 w9 ow9 hg9 _ bw9)
    go_roundw
    case rel => exact ⟨k + 1, us ++ [.slice Ae es.length ce], by omega, by go_num, (kV.alloc _).grown hg9 (fun e => by have := (Hown.out.lt _ e.symm).1; omega), (kR.alloc _).grown hg9 (fun e => by have := (Hown.out.lt _ e.symm).1; omega), by rw [Hft2.out, List.length_append]; exact own_snocI Hrows.out.1 ow9, by rw [Hft2.out]; exact ((Hrows.out.below (belA (bel0 wr) _)).snoc ⟨id, kd, ln, s, es⟩ (.slice Ae es.length ce) (own_below Hvo.out (belA (bel0 wr) _) (Nat.le_refl _))).kept (Hown.out.alloc (.cells #[.int .i64 id, .int .i64 kd, .int .i64 ln, .string s, .slice Ae es.length ce] 36)) hg9, (belA hbel _).trans (bw9.mono (by omega))⟩
    case measure => simp [intOf]; omega
  ·obtain rfl : k = xs.length := by omega
   rw [List.take_length] at hown hrows
   have hpos : 0 < (xs.filter fun y => y.id != a).length := by
    obtain ⟨x, hx, hne⟩ := Hroot.out
    exact List.length_pos_of_mem (List.mem_filter.2 ⟨hx, by simpa using hne⟩)
   obtain ⟨D, d, rfl⟩ := own_form1 hown hpos
   have YD : YR wr lo D d (xs.filter fun y => y.id != a) us := ⟨own_more hown (by omega), hrows⟩
   have f1 := kV.frozen 1
   obtain ⟨g0, g1⟩ := kR.f2
   obtain ⟨r0, r1⟩ := kR.g2
   clear s1 hlt hown hrows hpos
   obtain ⟨m, hm⟩ : ∃ m, (xs.filter fun y => y.id != a).length = m := ⟨_, rfl⟩
   have Hm := Lib.hid hm
   simp only [hm]
   clear hm
   go_wp2
   have k1 := kV.put 1 (.slice (some ⟨D, 0, none⟩) m d) #[.int .i64 nx, .slice (some ⟨D, 0, none⟩) m d] rfl
   have k2 := kR.far (p := ⟨w.heap.size, 1, none⟩) (show w.heap.size + 1 ≠ w.heap.size by omega) (.slice (some ⟨D, 0, none⟩) m d)
   have k3 := (k2.put 0 (.int .i64 nx) #[.int .i64 nx, .slice none 0 0] rfl).put 1 (.slice (some ⟨D, 0, none⟩) m d) #[.int .i64 nx, .slice (some ⟨D, 0, none⟩) m d] rfl
   obtain ⟨x0, x1⟩ := k3.g2
   refine bodyPost_ret (v := .agg #[.int .i64 nx, .slice (some ⟨D, 0, none⟩) m d]) (by simp [results, Tryz.results241, go_sem, x0, x1]) rfl ⟨D, d, us, by rw [Hm.out], ((YD.farV kV 1 _).farV k2 0 _).farV (k2.put 0 (.int .i64 nx) #[.int .i64 nx, .slice none 0 0] rfl) 1 _, ?_⟩
   exact belC (belC (belC hbel _ _ (by omega) _) _ _ (by omega) _) _ _ (by omega) _
theorem l6Less_own (lo g c : Nat) (nx : Int) (xs : List InoD) (vs : List Value) (hn : xs.length <= 100000) (a : Int) (k : Nat) (hk : k < xs.length) (hp : plc xs a = (k : Int)) (hl : -1000000 <= xs[k].ln /\ xs[k].ln <= 1000000) (hroot : ∃ x ∈ xs, x.id ≠ a) (w : World) (h : YR w lo g c xs vs) :
  Calls Tryz.prog 222 #[.agg #[.int .i64 nx, .slice (some ⟨g, 0, none⟩) xs.length c], .int .i64 a] w fun e w' => ∃ g' c' us, e = .returned (.agg #[.int .i64 nx, .slice (some ⟨g', 0, none⟩) (lessV xs k a (xs[k].ln - 1)).length c']) /\ YR w' lo g' c' (lessV xs k a (xs[k].ln - 1)) us /\ w.grownBy w' (some g) := by
 have HAt := Lib.hid (fun W hW => h.atK (nx := nx) (by omega) hp W hW)
 have hgw := h.hi
 have H := Lib.hid h
 have hl0 := hl.1
 have hl1 := hl.2
 have wl : IntKind.i64.wrap (xs[k].ln - 1) = xs[k].ln - 1 := by rw [IntKind.wrap_i64]; omega
 have Hroot := Lib.hid (show ∃ x ∈ ptL xs k (xs[k].ln - 1), x.id ≠ a from by
   obtain ⟨x, hx, hne⟩ := hroot
   have : x.id ∈ (ptL xs k (xs[k].ln - 1)).map (·.id) := by rw [putL_ids hk]; exact List.mem_map_of_mem hx
   obtain ⟨z, hz, h4⟩ := List.mem_map.1 this
   exact ⟨z, hz, by rw [h4]; exact hne⟩)
 clear h hp hl hroot
 obtain ⟨w1, hW1⟩ : ∃ W, (w.alloc (.cells #[.int .i64 nx, .slice (some ⟨g, 0, none⟩) xs.length c] 26)).alloc (.cells #[.int .i64 0, .slice none 0 0] 26) = W := ⟨_, rfl⟩
 have BW1 : Below w.heap.size w w1 := by rw [<- hW1]; exact belA (belA (bel0 w) _) _
 have s1 : w1.heap.size = w.heap.size + 2 := by rw [<- hW1]; simp
 have kV : Blk w1 w.heap.size 26 #[.int .i64 nx, .slice (some ⟨g, 0, none⟩) xs.length c] := by rw [<- hW1]; exact (Blk.new' _ _ _ _ rfl).alloc _
 have kR : Blk w1 (w.heap.size + 1) 26 #[.int .i64 0, .slice none 0 0] := by rw [<- hW1]; exact Blk.new' _ _ _ _ (by simp)
 have HW1 := Lib.hid hW1
 have S1 := Lib.hid s1
 clear hW1 s1
 obtain ⟨v0, v1⟩ := kV.g2
 go_enter Tryz.func222, Tryz.ntmps222
 go_wp2_with fail
 rw [HW1.out]
 clear HW1 v0 v1
 refine (HAt.out w1 BW1).mono ?_
 rintro e w2 ⟨rfl, hb2⟩
 have BW2 := belN BW1 hb2
 have kV2 := kV.below hb2 kV.lt
 have kR2 := kR.below hb2 kR.lt
 have Y2 := Lib.hid (H.out.below BW2)
 obtain ⟨v, hv, hvo, z0, z1, z2, z3, z4⟩ := Y2.out.at_ hk
 have f2 := Y2.out.frozen (k * 5 + 2)
 obtain ⟨v0, v1⟩ := kV2.g2
 have q0 : (0 : Int) <= (k : Int) := by omega
 have q1 : (k : Int) < ((xs.length : Nat) : Int) := by omega
 have ltV := kV2.lt
 clear z0 z1 z3 z4 hv hvo kV kR hb2 BW1
 obtain ⟨ln, hln⟩ : ∃ l, xs[k].ln = l := ⟨_, rfl⟩
 have Hln := Lib.hid hln
 rw [hln] at z2 wl hl0 hl1
 clear hln
 go_wp2_with fail
 go_region
 clear v0 v1 z2 f2
 obtain ⟨w3, hw3⟩ : ∃ W, w2.setCell ⟨g, k * 5 + 2, none⟩ (.int .i64 (ln - 1)) = W := ⟨_, rfl⟩
 have Y3 : YR w3 lo g c (ptL xs k (ln - 1)) vs := by rw [<- hw3]; exact Y2.out.putL hk (ln - 1)
 have kV3 : Blk w3 w.heap.size 26 #[.int .i64 nx, .slice (some ⟨g, 0, none⟩) xs.length c] := by rw [<- hw3]; exact kV2.far (p := ⟨g, k * 5 + 2, none⟩) (show w.heap.size ≠ g by omega) _
 have kR3 : Blk w3 (w.heap.size + 1) 26 #[.int .i64 0, .slice none 0 0] := by rw [<- hw3]; exact kR2.far (p := ⟨g, k * 5 + 2, none⟩) (show w.heap.size + 1 ≠ g by omega) _
 have G3 : w.grownBy w3 (some g) := by rw [<- hw3]; exact only_sc (gb_any BW2) _ _
 rw [hw3]
 clear hw3 kV2 kR2 BW2 Y2
 obtain ⟨w4, hw4⟩ : ∃ W, w3.drew = W := ⟨_, rfl⟩
 have Y4 : YR w4 lo g c (ptL xs k (ln - 1)) vs := by rw [<- hw4]; exact Y3.below (bel0 w3).drew
 have kV4 : Blk w4 w.heap.size 26 #[.int .i64 nx, .slice (some ⟨g, 0, none⟩) xs.length c] := by rw [<- hw4]; exact kV3.drew
 have kR4 : Blk w4 (w.heap.size + 1) 26 #[.int .i64 0, .slice none 0 0] := by rw [<- hw4]; exact kR3.drew
 have G4 : w.grownBy w4 (some g) := by rw [<- hw4]; exact gb_below G3 (bel0 w3).drew
 rw [hw4]
 clear hw4 kV3 kR3 G3 Y3
 have hk' : k < (ptL xs k (ln - 1)).length := by rw [putL_len]; exact hk
 obtain ⟨v', _, _, _, _, z2, _, _⟩ := Y4.at_ hk'
 rw [putL_same hk hk'] at z2
 simp only at z2
 obtain ⟨v0, v1⟩ := kV4.g2
 have Y4h := Lib.hid Y4
 obtain ⟨r0, r1⟩ := kR4.g2
 obtain ⟨f0, f1⟩ := kR4.f2
 have lR := kR4.lt
 have lV := kV4.lt
 clear Y4
 by_cases h0 : ln - 1 = 0
 ·have hlv : lessV xs k a (xs[k].ln - 1) = (ptL xs k (ln - 1)).filter (fun y => y.id != a) := by unfold lessV; rw [Hln.out, if_pos h0]
  have t0 : (ln - 1 == 0) = true := by rw [h0]; rfl
  clear h0
  go_wp2_with fail
  have HG := l6Gone_own lo g c nx (ptL xs k (ln - 1)) vs (by rw [putL_len]; exact hn) a (by have h := Hroot.out; rw [Hln.out] at h; exact h) w4 Y4h.out
  simp only [putL_len] at HG
  refine HG.mono ?_
  rintro e w5 ⟨g', c', us, rfl, Y5, hb5⟩
  clear HG v0 v1 z2 r0 r1 f0 f1 lR lV
  have kV5 := kV4.below hb5 kV4.lt
  have kR5 := kR4.below hb5 kR4.lt
  have G5 := gb_below G4 hb5
  obtain ⟨r0, r1⟩ := kR5.g2
  obtain ⟨f0, f1⟩ := kR5.f2
  have lR := kR5.lt
  obtain ⟨m, hm⟩ : ∃ m, ((ptL xs k (ln - 1)).filter fun y => y.id != a).length = m := ⟨_, rfl⟩
  have Hm := Lib.hid hm
  simp only [hm]
  clear hm
  go_wp2
  have k3 := (kR5.put 0 (.int .i64 nx) #[.int .i64 nx, .slice none 0 0] rfl).put 1 (.slice (some ⟨g', 0, none⟩) m c') #[.int .i64 nx, .slice (some ⟨g', 0, none⟩) m c'] rfl
  obtain ⟨x0, x1⟩ := k3.g2
  refine bodyPost_ret (v := .agg #[.int .i64 nx, .slice (some ⟨g', 0, none⟩) m c']) (by simp [results, Tryz.results222, go_sem, x0, x1]) rfl ⟨g', c', us, by rw [hlv, Hm.out], by rw [hlv]; exact (Y5.farV kR5 0 _).farV (kR5.put 0 (.int .i64 nx) #[.int .i64 nx, .slice none 0 0] rfl) 1 _, ?_⟩
  exact gb_bel0 G5 (((Below.refl w.heap.size _).setCell (p := ⟨w.heap.size + 1, 0, none⟩) (Nat.le_succ _) _).setCell (p := ⟨w.heap.size + 1, 1, none⟩) (Nat.le_succ _) _)
 ·have hlv : lessV xs k a (xs[k].ln - 1) = ptL xs k (ln - 1) := by unfold lessV; rw [Hln.out, if_neg h0]
  have t0 : (ln - 1 == 0) = false := by simpa using h0
  clear h0
  go_wp2
  have k3 := (kR4.put 0 (.int .i64 nx) #[.int .i64 nx, .slice none 0 0] rfl).put 1 (.slice (some ⟨g, 0, none⟩) xs.length c) #[.int .i64 nx, .slice (some ⟨g, 0, none⟩) xs.length c] rfl
  obtain ⟨x0, x1⟩ := k3.g2
  refine bodyPost_ret (v := .agg #[.int .i64 nx, .slice (some ⟨g, 0, none⟩) xs.length c]) (by simp [results, Tryz.results222, go_sem, x0, x1]) rfl ⟨g, c, vs, by rw [hlv, putL_len], by rw [hlv]; exact (Y4h.out.farV kR4 0 _).farV (kR4.put 0 (.int .i64 nx) #[.int .i64 nx, .slice none 0 0] rfl) 1 _, ?_⟩
  exact gb_bel0 G4 (((Below.refl w.heap.size _).setCell (p := ⟨w.heap.size + 1, 0, none⟩) (Nat.le_succ _) _).setCell (p := ⟨w.heap.size + 1, 1, none⟩) (Nat.le_succ _) _)

end Go.Proofs.YtjjniapamdleoaaGreatDoor
