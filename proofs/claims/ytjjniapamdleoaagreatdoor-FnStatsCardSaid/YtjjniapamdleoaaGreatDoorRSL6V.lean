/- Volumes are drawn: where a call goes, what it is, and a volume that calls have made. -/
import Derived.Test.YtjjniapamdleoaaGreatDoorRSL6D
import Derived.Test.YtjjniapamdleoaaGreatDoorRSDraw
import Derived.Deep.CutBlock
namespace Go.Proofs.YtjjniapamdleoaaGreatDoor
open Go Go.RowKit
set_option maxHeartbeats 8000000
set_option maxRecDepth 100000

/-- A volume in memory of one's own, from block lo on. -/
def YV (w : World) (lo : Nat) (v : Value) (V : VolD) : Prop := ∃ g c us, v = .agg #[.int .i64 V.nx, .slice (some ⟨g, 0, none⟩) V.xs.length c] /\ YR w lo g c V.xs us
theorem YR.grownC {w w' : World} {lo g c q : Nat} {xs : List InoD} {vs : List Value} (h : YR w lo g c xs vs) (hg : w.grownBy w' (some q)) (hq : q < lo) : YR w' lo g c xs vs :=
 ⟨own_g h.1 hg hq, h.2.1, fun i hi => by obtain ⟨v, h1, h2⟩ := h.2.2 i hi; exact ⟨v, h1, own_g h2 hg hq⟩⟩
theorem gcell {w w' : World} {b j q : Nat} {x : Value} (h : w.cell? ⟨b, j, none⟩ = some x) (hg : w.grownBy w' (some q)) (hne : b ≠ q) : w'.cell? ⟨b, j, none⟩ = some x := by
 rw [World.cell?_of_block (w := w) (hg.block _ (World.block_lt_of_cell? _ _ h) (by intro e; injection e with e; exact hne e))]
 exact h
theorem QV.ne {K : Int} {V : VolD} (h : QV K V) : 0 < V.xs.length := by
 obtain ⟨x, hx, _⟩ := h.root
 exact List.length_pos_of_mem hx
theorem QV.nms {K : Int} {V : VolD} (h : QV K V) {k : Nat} (hk : k < V.xs.length) : ∀ e ∈ V.xs[k].es, e.s.size <= 25 := fun e he => (h.sm.2 _ (List.getElem_mem hk)).2.1 e he
theorem rd_of {w : World} {base : Nat} {e : TypeId} {size n c : Nat} {A : Option Addr} {xs : List Value} (h : w.ownsRow base e size (.slice A n c) n xs) : Reads w w.heap.size size A n xs := by
 obtain ⟨A', c', hv, _, _, hr⟩ := own_vals h
 cases hv
 exact hr
theorem YR.farC {w : World} {lo g c b : Nat} {cs : Array Value} {xs : List InoD} {vs : List Value} (h : YR w lo g c xs vs) (hb : Blk w b 95 cs) (j : Nat) (u : Value) : YR (w.setCell ⟨b, j, none⟩ u) lo g c xs vs :=
 ⟨h.1.kept (only_setCell (p := ⟨b, j, none⟩) (grown_refl w (some b)) (.inl rfl) u) (.inr (own_blk_ne h.1 hb (by decide))), h.2.1, fun i hi => by
  obtain ⟨v, h1, h2⟩ := h.2.2 i hi
  exact ⟨v, h1, h2.kept (only_setCell (p := ⟨b, j, none⟩) (grown_refl w (some b)) (.inl rfl) u) (.inr (own_blk_ne h2 hb (by decide)))⟩⟩
/-- While a call is drawn: the boxes of the volume, of what is answered and of the call (block px), the cursor, the volume. -/
structure CS (w0 : World) (g : Nat) (A : Option Addr) (n cp : Nat) (bs : List UInt8) (lo gy c : Nat) (nx : Int) (xs : List InoD) (us : List Value) (px : Nat) (cs : Array Value) (wx : World) : Prop where
 v : Blk wx w0.heap.size 26 #[.int .i64 nx, .slice (some ⟨gy, 0, none⟩) xs.length c]
 r : Blk wx (w0.heap.size + 1) 95 #[.int .i64 0, .int .i64 0, .string ⟨#[]⟩, .int .i64 0, .string ⟨#[]⟩, .string ⟨#[]⟩]
 x : Blk wx px 95 cs
 cu : Curs wx g A n cp bs
 y : YR wx lo gy c xs us
 gr : w0.grownBy wx (some g)
 lt : g < w0.heap.size /\ w0.heap.size + 2 <= px /\ g < lo
section
variable {w0 wx w' : World} {g : Nat} {A : Option Addr} {n cp : Nat} {bs : List UInt8} {lo gy c : Nat} {nx : Int} {xs : List InoD} {us : List Value} {px : Nat} {cs : Array Value}
theorem CS.grown (h : CS w0 g A n cp bs lo gy c nx xs us px cs wx) (hg : wx.grownBy w' (some g)) (hC : Curs w' g A n cp bs) : CS w0 g A n cp bs lo gy c nx xs us px cs w' :=
 ⟨blk_gV h.v hg (by have := h.lt; omega), blk_gV h.r hg (by have := h.lt; omega), blk_gV h.x hg (by have := h.lt; omega), hC, h.y.grownC hg h.lt.2.2, h.gr.trans hg, h.lt⟩
theorem CS.set (h : CS w0 g A n cp bs lo gy c nx xs us px cs wx) (j : Nat) (u : Value) (cs' : Array Value) (hj : cs.setIfInBounds j u = cs') : CS w0 g A n cp bs lo gy c nx xs us px cs' (wx.setCell ⟨px, j, none⟩ u) :=
 ⟨h.v.far (p := ⟨px, j, none⟩) (by have := h.lt; show w0.heap.size ≠ px; omega) u, h.r.far (p := ⟨px, j, none⟩) (by have := h.lt; show w0.heap.size + 1 ≠ px; omega) u, h.x.put j u cs' hj,
  h.cu.bel ((Below.refl (g + 1) wx).setCell (p := ⟨px, j, none⟩) (by have := h.lt; show g + 1 <= px; omega) u) (by omega), h.y.farC h.x j u, gb_bel0 h.gr ((Below.refl w0.heap.size wx).setCell (p := ⟨px, j, none⟩) (by have := h.lt; show w0.heap.size <= px; omega) u), h.lt⟩
end
theorem CS.out {w0 wx : World} {g : Nat} {A : Option Addr} {n cp : Nat} {bs : List UInt8} {lo gy c : Nat} {nx : Int} {xs : List InoD} {us : List Value} {px : Nat} {x0 x1 x2 x3 x4 x5 : Value} (h : CS w0 g A n cp bs lo gy c nx xs us px #[x0, x1, x2, x3, x4, x5] wx) :
  Blk ((((((wx.setCell ⟨w0.heap.size + 1, 0, none⟩ x0).setCell ⟨w0.heap.size + 1, 1, none⟩ x1).setCell ⟨w0.heap.size + 1, 2, none⟩ x2).setCell ⟨w0.heap.size + 1, 3, none⟩ x3).setCell ⟨w0.heap.size + 1, 4, none⟩ x4).setCell ⟨w0.heap.size + 1, 5, none⟩ x5) (w0.heap.size + 1) 95 #[x0, x1, x2, x3, x4, x5] /\
  Curs ((((((wx.setCell ⟨w0.heap.size + 1, 0, none⟩ x0).setCell ⟨w0.heap.size + 1, 1, none⟩ x1).setCell ⟨w0.heap.size + 1, 2, none⟩ x2).setCell ⟨w0.heap.size + 1, 3, none⟩ x3).setCell ⟨w0.heap.size + 1, 4, none⟩ x4).setCell ⟨w0.heap.size + 1, 5, none⟩ x5) g A n cp bs /\
  w0.grownBy ((((((wx.setCell ⟨w0.heap.size + 1, 0, none⟩ x0).setCell ⟨w0.heap.size + 1, 1, none⟩ x1).setCell ⟨w0.heap.size + 1, 2, none⟩ x2).setCell ⟨w0.heap.size + 1, 3, none⟩ x3).setCell ⟨w0.heap.size + 1, 4, none⟩ x4).setCell ⟨w0.heap.size + 1, 5, none⟩ x5) (some g) := by
 have hl := h.lt
 have b : ∀ {N : Nat} {w : World} (_ : N <= w0.heap.size + 1) (_ : Below N wx w) (j : Nat) (u : Value), Below N wx (w.setCell ⟨w0.heap.size + 1, j, none⟩ u) := fun hN hb j u => hb.setCell (p := ⟨w0.heap.size + 1, j, none⟩) hN u
 have b1 := fun (N : Nat) (hN : N <= w0.heap.size + 1) => b hN (b hN (b hN (b hN (b hN (b hN (Below.refl N wx) 0 x0) 1 x1) 2 x2) 3 x3) 4 x4) 5 x5
 refine ⟨?_, h.cu.bel (b1 (g + 1) (by omega)) (by omega), gb_bel0 h.gr (b1 w0.heap.size (by omega))⟩
 exact (((((h.r.put 0 x0 _ rfl).put 1 x1 _ rfl).put 2 x2 _ rfl).put 3 x3 _ rfl).put 4 x4 _ rfl).put 5 x5 #[x0, x1, x2, x3, x4, x5] rfl
def vol0 : VolD := ⟨2, [⟨1, 2, 1, ⟨#[]⟩, []⟩]⟩
theorem qv0 {K : Int} (hK : 1 <= K) : QV K vol0 := by
 refine ⟨⟨by decide, by decide⟩, by decide, by simp [vol0], ?_, ⟨_, List.mem_singleton.2 rfl, rfl⟩, ?_, ?_, ?_, ?_, ?_⟩
 ·intro x hx; rw [List.mem_singleton.1 hx]; exact ⟨by decide, by decide⟩
 ·intro x hx; rw [List.mem_singleton.1 hx]; exact .inr rfl
 ·intro x hx; rw [List.mem_singleton.1 hx]; exact dirOk_nil
 ·intro x hx e he; rw [List.mem_singleton.1 hx] at he; exact absurd he List.not_mem_nil
 ·intro x hx; rw [List.mem_singleton.1 hx]; refine ⟨by decide, by show (1 : Int) <= K; exact hK⟩
 ·intro x hx; rw [List.mem_singleton.1 hx]; decide
theorem CallP.yv {w0 : World} {v : Value} {V : VolD} {K : Int} {e : Ending} {w' : World} {lo : Nat} (h : CallP w0 v V K e w') (hY : YV w' lo v V) (hl : lo <= w0.heap.size) : ∃ v' V' r, e = .returned (.tuple #[v', r]) /\ QV K V' /\ YV w' lo v' V' := by
 obtain ⟨v', V', r, h1, _, h3, h4⟩ := h
 refine ⟨v', V', r, h1, h3, ?_⟩
 rcases h4 with ⟨rfl, rfl⟩ | ⟨g, c, us, rfl, hy⟩
 ·exact hY
 ·exact ⟨g, c, us, rfl, hy.more hl⟩

theorem l6Where_any (g : Nat) (A : Option Addr) (n cp : Nat) (bs : List UInt8) (hn : n <= 9223372036854775806) (lo : Nat) (hlo : g < lo) (v : Value) (V : VolD) (K : Int) (hq : QV K V) (w : World) (hY : YV w lo v V) (h : Curs w g A n cp bs) :
  Calls Tryz.prog 178 #[.pointer (some ⟨g, 0, none⟩), v] w fun e w' => ∃ x s, e = .returned (.tuple #[.int .i64 x, .string s]) /\ s.size <= 25 /\ Curs w' g A n cp bs /\ w.grownBy w' (some g) := by
 have hn16 := hq.len
 have hne := hq.ne
 have Hq := Lib.hid hq
 have Hb := Lib.hid (fun m hm W hW => l1Below_any g A n cp bs hn m hm W hW)
 have Ho := Lib.hid (fun m hm W hW => l1Once_any g A n cp bs hn m hm W hW)
 have Hnm := Lib.hid (fun W hW => l4Name_any g A n cp bs hn W hW)
 have Hdir := Lib.hid (fun v b W hW => l6Dir_rd v V (by omega) b W hW)
 have Hat := Lib.hid (fun v b W hW => l6At_any v V (by omega) b W hW)
 obtain ⟨gy, c, us, rfl, hyr⟩ := hY
 obtain ⟨nx, xs⟩ := V
 simp only at Hdir Hat hn16 hne hyr ⊢
 have hgl := h.lt
 have hgy := hyr.hi
 obtain ⟨w1, hW1⟩ : ∃ W, w.alloc (.cells #[.int .i64 nx, .slice (some ⟨gy, 0, none⟩) xs.length c] 26) = W := ⟨_, rfl⟩
 have a1 : Below w.heap.size w w1 := by rw [<- hW1]; exact belA (bel0 w) _
 have kV1 : Blk w1 w.heap.size 26 #[.int .i64 nx, .slice (some ⟨gy, 0, none⟩) xs.length c] := by rw [<- hW1]; exact Blk.new' _ _ _ _ rfl
 have C1 := h.below a1
 have Y1 := hyr.below a1
 have G1 : w.grownBy w1 (some g) := gb_below (grown_refl _ _) a1
 have HW1 := Lib.hid hW1
 clear hW1 hyr h hq a1
 have v_1 := kV1.get 1 rfl
 have q0 : (0 : Int) < ((xs.length : Nat) : Int) := by omega
 go_enter Tryz.func178, Tryz.ntmps178
 go_upto_region 3 with fail
 rw [HW1.out]
 clear HW1
 refine wp_region_held_drew (S := fun w' => w'.cell? ⟨w.heap.size, 1, none⟩ = some (.slice (some ⟨gy, 0, none⟩) xs.length c)) (by kernel_rfl) (by exact kV1.get 1 rfl) (fun hHeld => ?_)
 clear hHeld
 refine foldH ?_
 intro r hr0
 have bw : w1.grownBy r (some g) := by rw [hr0]; exact gb_below (grown_refl _ _) (bel0 w1).drew
 have kV : Blk r w.heap.size 26 #[.int .i64 nx, .slice (some ⟨gy, 0, none⟩) xs.length c] := by rw [hr0]; exact kV1.drew
 have pC : Curs r g A n cp bs := by rw [hr0]; exact (C1.below (bel0 w1).drew)
 have pY : YR r lo gy c xs us := by rw [hr0]; exact (Y1.below (bel0 w1).drew)
 clear hr0
 apply mem4_nw (P := fun kx q => w1.grownBy q (some g) /\ Blk q w.heap.size 26 #[.int .i64 nx, .slice (some ⟨gy, 0, none⟩) xs.length c] /\ Curs q g A n cp bs /\ YR q lo gy c xs us /\ (0 : Int) <= (kx : Int) /\ (kx : Int) < ((xs.length : Nat) : Int))
 case use =>
  intro key_wa_6
  refine tkW_ 0 ?_ (hS := by exact kV.get 1 rfl)
  refine tkW_ 1 ?_ (hS := by exact kV.get 1 rfl)
  refine tkW_ 2 ?_ (hS := by exact kV.get 1 rfl)
  refine tkW_ 3 ?_ (hS := by exact kV.get 1 rfl)
  refine tkW_ 4 ?_ (hS := by exact kV.get 1 rfl)
  refine tkW_ 5 ?_ (hS := by exact kV.get 1 rfl)
  refine rd1_ 6 (fun K hK => ?br1007)
  case br1007 =>
   go_simp
   go_at_call 60
   refine (Hb.out ((xs.length : Nat) : Int) (by omega) _ pC).mono ?_
   rintro e q ⟨x, rfl, _, hx, hC, hg⟩
   have bw2 := bw.trans hg
   have kV2 := blk_gV kV hg (by omega)
   have pY2 : YR q lo gy c xs us := (YR.grownC pY hg hlo)
   obtain ⟨hx0, hx1⟩ := hx (by omega)
   obtain ⟨kx, rfl⟩ : ∃ q : Nat, x = (q : Int) := ⟨x.toNat, by omega⟩
   have pC2 := hC
   have hk0 : (0 : Int) <= (kx : Int) := hx0
   have hk1 : (kx : Int) < ((xs.length : Nat) : Int) := hx1
   refine hK.out _ _ (by exact kV2.get 1 rfl) (fun _ => ?_)
   clear hK K
   try simp only [Act.put, pT_, pZ_, pS_]
   refine tkW_ 7 ?_ (hS := by exact kV2.get 1 rfl)
   refine tkW_ 8 ?_ (hS := by exact kV2.get 1 rfl)
   exact key_wa_6 kx q ⟨bw2, kV2, pC2, pY2, hk0, hk1⟩
 case key =>
  rintro kx r ⟨bw, kV, pC, pY, hk0, hk1⟩
  try dsimp only
  refine rd1_ 9 (fun K hK => ?br1010)
  case br1010 =>
   have hkx : kx < xs.length := by omega
   obtain ⟨_, _, _, x_0, _⟩ := pY.at_ hkx
   go_simp
   refine hK.out _ _ (by exact kV.get 1 rfl) (fun _ => ?_)
   clear hK K
   try simp only [Act.put, pT_, pZ_, pS_]
   refine tkW_ 10 ?_ (hS := by exact (kV.get 1 rfl))
   refine wpAnyH_done (by kernel_rfl) ?_ _
   have G2 := G1.trans bw
   clear x_0 hk0 hk1 bw G1
   obtain ⟨d, hd⟩ : ∃ d, xs[kx].id = d := ⟨_, rfl⟩
   rw [hd]
   clear hd
   obtain ⟨v_0, v_1⟩ := kV.g2
   go_upto_region 4 with fail
   go_cut [30] from 22 to 30 (fun bz wx => ∃ bb : Bool, bz = .bool bb /\ Hid (Blk wx w.heap.size 26 #[.int .i64 nx, .slice (some ⟨gy, 0, none⟩) xs.length c] /\ Curs wx g A n cp bs /\ YR wx lo gy c xs us /\ w.grownBy wx (some g)))
   case first =>
    go_wp2_with fail
    refine (Hdir.out _ d _ (pY.isC nx)).mono ?_
    rintro e w4 ⟨rfl, hb4⟩
    have hvl := kV.lt
    have k4 := kV.below hb4 hvl
    have C4 := pC.below hb4
    have Y4 := pY.below hb4
    have G4 := gb_below G2 hb4
    clear v_0 v_1
    rcases bgPD xs d == 0 with _ | _
    ·go_wp2_with fail
     refine (Ho.out 8 (by omega) w4 C4).mono ?_
     rintro e w5 ⟨b5, rfl, C5, g5⟩
     have k5 := blk_gV k4 g5 (by omega)
     have Y5 := YR.grownC Y4 g5 hlo
     have G5 := G4.trans g5
     cases b5
     ·go_wp2_with fail
      go_meet
      exact ⟨true, rfl, Lib.hid ⟨k5, C5, Y5, G5⟩⟩
     ·go_wp2_with fail
      go_meet
      exact ⟨false, rfl, Lib.hid ⟨k5, C5, Y5, G5⟩⟩
    ·go_wp2_with fail
     go_meet
     exact ⟨false, rfl, Lib.hid ⟨k4, C4, Y4, G4⟩⟩
   case rest =>
    obtain ⟨bb, rfl, HR⟩ := hcut
    clear v_0 v_1 G2 pC pY kV
    go_upto_if 30 with fail
    go_cut [6] from 31 to 31 (fun s6 wx => ∃ d : Int, s6 = .int .i64 d /\ Hid (Blk wx w.heap.size 26 #[.int .i64 nx, .slice (some ⟨gy, 0, none⟩) xs.length c] /\ Curs wx g A n cp bs /\ YR wx lo gy c xs us /\ w.grownBy wx (some g)))
    case first =>
     cases bb
     ·go_wp2_with fail
      go_meet
      exact ⟨_, rfl, HR⟩
     ·go_wp2_with fail
      go_meet
      exact ⟨_, rfl, HR⟩
    case rest =>
     clear HR
     obtain ⟨d, rfl, HR⟩ := hcut
     obtain ⟨k6, C6, Y6, G6⟩ := HR.out
     clear HR
     obtain ⟨w6, hw6⟩ : ∃ W, W = wc := ⟨_, rfl⟩
     subst hw6
     obtain ⟨v_0, v_1⟩ := k6.g2
     go_wp2_with fail
     refine (Hat.out _ d _ (Y6.isC nx).is).mono ?_
     rintro e w7 ⟨rfl, hb7⟩
     clear v_0 v_1
     have k7 := k6.below hb7 k6.lt
     have C7 := C6.below hb7
     have Y7 := Y6.below hb7
     have G7 := gb_below G6 hb7
     clear k6 C6 Y6 G6 hb7
     rcases plc_cases xs d with ⟨hp, _⟩ | ⟨k, hk, hp, _⟩
     ·rw [hp]
      clear hp
      go_wp2_with fail
      refine (Hnm.out _ C7).mono ?_
      rintro e wn ⟨s, rfl, hs, Cn, gn⟩
      go_wp2
      refine bodyPost_ret (v := .tuple #[.int .i64 d, .string s]) (by simp [results, Tryz.results178, go_sem]) rfl ⟨_, _, rfl, hs, Cn, G7.trans gn⟩
     rw [hp]
     clear hp
     have r0 : (0 : Int) <= (k : Int) := by omega
     have r1 : (k : Int) < ((xs.length : Nat) : Int) := by omega
     obtain ⟨ve, hve, hrow, _, _, _, _, z4⟩ := Y7.at_ hk
     obtain ⟨Ae, ce, rfl, _⟩ := own_vals hrow
     obtain ⟨m, hm⟩ : ∃ m, xs[k].es.length = m := ⟨_, rfl⟩
     have Hm := Lib.hid hm
     rw [hm] at z4 hrow
     clear hm hve
     have hm12 : m <= 12 := by have h1 : xs[k].es.length <= 12 := (Hq.out.names hk).1; have := Hm.out; omega
     have v_1 := k7.get 1 rfl
     by_cases hm0 : (0 : Int) < (m : Int)
     rotate_left
     ·have t0 : decide ((0 : Int) < (m : Int)) = false := decide_eq_false hm0
      go_wp2_with fail
      refine (Hnm.out _ C7).mono ?_
      rintro e wn ⟨s, rfl, hs, Cn, gn⟩
      go_wp2
      refine bodyPost_ret (v := .tuple #[.int .i64 d, .string s]) (by simp [results, Tryz.results178, go_sem]) rfl ⟨_, _, rfl, hs, Cn, G7.trans gn⟩
     have t0 : decide ((0 : Int) < (m : Int)) = true := decide_eq_true hm0
     go_wp2_with fail
     refine (Ho.out 2 (by omega) w7 C7).mono ?_
     rintro e w8 ⟨b8, rfl, C8, g8⟩
     have k8 := blk_gV k7 g8 (by omega)
     have G8 := G7.trans g8
     have Z8 := gcell z4 g8 (by omega)
     have R8 := own_g hrow g8 hlo
     clear k7 C7 G7 z4 hrow v_1 g8
     cases b8
     ·skip
      go_wp2_with fail
      refine (Hnm.out _ C8).mono ?_
      rintro e wn ⟨s, rfl, hs, Cn, gn⟩
      go_wp2
      refine bodyPost_ret (v := .tuple #[.int .i64 d, .string s]) (by simp [results, Tryz.results178, go_sem]) rfl ⟨_, _, rfl, hs, Cn, G8.trans gn⟩
     obtain ⟨hmk, b4, o4, hA4, _⟩ := reads_ent (rd_of R8) (show 0 < m by omega)
     subst hA4
     have v_1 := k8.get 1 rfl
     go_upto_region 8 with fail
     clear v_1
     refine wp_region_held_drew (S := fun w' => w'.cell? ⟨w.heap.size, 1, none⟩ = some (.slice (some ⟨gy, 0, none⟩) xs.length c) /\ w'.cell? ⟨gy, k * 5 + 4, none⟩ = some (.slice (some ⟨b4, o4, none⟩) m ce)) (by kernel_rfl) (by exact ⟨k8.get 1 rfl, Z8⟩) (fun hHeld => ?_)
     clear hHeld
     refine foldH ?_
     intro r hr0
     have bw : w8.grownBy r (some g) := by rw [hr0]; exact gb_below (grown_refl _ _) (bel0 w8).drew
     have kV : Blk r w.heap.size 26 #[.int .i64 nx, .slice (some ⟨gy, 0, none⟩) xs.length c] := by rw [hr0]; exact k8.drew
     have pC : Curs r g A n cp bs := by rw [hr0]; exact (C8.below (bel0 w8).drew)
     have pR : World.ownsRow r lo 38 4 (.slice (some ⟨b4, o4, none⟩) m ce) m (ES xs[k].es) := by rw [hr0]; exact (own_below R8 (bel0 w8).drew (Nat.le_refl _))
     have pZ : World.cell? r ⟨gy, k * 5 + 4, none⟩ = some (.slice (some ⟨b4, o4, none⟩) m ce) := by rw [hr0]; exact (keep1 (bel0 w8).drew Z8)
     clear hr0
     apply mem4_nw (P := fun kx q => w8.grownBy q (some g) /\ Blk q w.heap.size 26 #[.int .i64 nx, .slice (some ⟨gy, 0, none⟩) xs.length c] /\ Curs q g A n cp bs /\ World.ownsRow q lo 38 4 (.slice (some ⟨b4, o4, none⟩) m ce) m (ES xs[k].es) /\ World.cell? q ⟨gy, k * 5 + 4, none⟩ = some (.slice (some ⟨b4, o4, none⟩) m ce) /\ (0 : Int) <= (kx : Int) /\ (kx : Int) < ((m : Nat) : Int))
     case use =>
      intro key_wb_15
      refine tkW_ 0 ?_ (hS := by exact ⟨kV.get 1 rfl, pZ⟩)
      refine tkW_ 1 ?_ (hS := by exact ⟨kV.get 1 rfl, pZ⟩)
      refine tkW_ 2 ?_ (hS := by exact ⟨kV.get 1 rfl, pZ⟩)
      refine tkW_ 3 ?_ (hS := by exact ⟨kV.get 1 rfl, pZ⟩)
      refine tkW_ 4 ?_ (hS := by exact ⟨kV.get 1 rfl, pZ⟩)
      refine tkW_ 5 ?_ (hS := by exact ⟨kV.get 1 rfl, pZ⟩)
      refine tkW_ 6 ?_ (hS := by exact ⟨kV.get 1 rfl, pZ⟩)
      refine tkW_ 7 ?_ (hS := by exact ⟨kV.get 1 rfl, pZ⟩)
      refine tkW_ 8 ?_ (hS := by exact ⟨kV.get 1 rfl, pZ⟩)
      refine tkW_ 9 ?_ (hS := by exact ⟨kV.get 1 rfl, pZ⟩)
      refine tkW_ 10 ?_ (hS := by exact ⟨kV.get 1 rfl, pZ⟩)
      refine tkW_ 11 ?_ (hS := by exact ⟨kV.get 1 rfl, pZ⟩)
      refine tkW_ 12 ?_ (hS := by exact ⟨kV.get 1 rfl, pZ⟩)
      refine tkW_ 13 ?_ (hS := by exact ⟨kV.get 1 rfl, pZ⟩)
      refine tkW_ 14 ?_ (hS := by exact ⟨kV.get 1 rfl, pZ⟩)
      refine rd1_ 15 (fun K hK => ?br4016)
      case br4016 =>
       go_simp
       go_at_call 60
       refine (Hb.out ((m : Nat) : Int) (by omega) _ pC).mono ?_
       rintro e q ⟨x, rfl, _, hx, hC, hg⟩
       have bw2 := bw.trans hg
       have kV2 := blk_gV kV hg (by omega)
       have pR2 : World.ownsRow q lo 38 4 (.slice (some ⟨b4, o4, none⟩) m ce) m (ES xs[k].es) := (own_g pR hg hlo)
       have pZ2 : World.cell? q ⟨gy, k * 5 + 4, none⟩ = some (.slice (some ⟨b4, o4, none⟩) m ce) := (gcell pZ hg (by omega))
       obtain ⟨hx0, hx1⟩ := hx (by omega)
       obtain ⟨kx, rfl⟩ : ∃ q : Nat, x = (q : Int) := ⟨x.toNat, by omega⟩
       have pC2 := hC
       have hk0 : (0 : Int) <= (kx : Int) := hx0
       have hk1 : (kx : Int) < ((m : Nat) : Int) := hx1
       refine hK.out _ _ (by exact ⟨kV2.get 1 rfl, pZ2⟩) (fun _ => ?_)
       clear hK K
       try simp only [Act.put, pT_, pZ_, pS_]
       refine tkW_ 16 ?_ (hS := by exact ⟨kV2.get 1 rfl, pZ2⟩)
       refine tkW_ 17 ?_ (hS := by exact ⟨kV2.get 1 rfl, pZ2⟩)
       refine tkW_ 19 ?_ (hS := by exact ⟨kV2.get 1 rfl, pZ2⟩)
       exact key_wb_15 kx q ⟨bw2, kV2, pC2, pR2, pZ2, hk0, hk1⟩
     case key =>
      rintro kx r ⟨bw, kV, pC, pR, pZ, hk0, hk1⟩
      try dsimp only
      refine rd1_ 18 (fun K hK => ?br4020)
      case br4020 =>
       have hkx : kx < m := by omega
       obtain ⟨hkl, b5, o5, hA5, _, _, _, x_0, _⟩ := reads_ent (rd_of pR) hkx
       simp only [Option.some.injEq, Addr.mk.injEq, and_true] at hA5
       obtain ⟨rfl, rfl⟩ := hA5
       go_simp
       refine hK.out _ _ (by exact ⟨kV.get 1 rfl, pZ⟩) (fun _ => ?_)
       clear hK K
       try simp only [Act.put, pT_, pZ_, pS_]
       refine tkW_ 20 ?_ (hS := by exact ⟨kV.get 1 rfl, pZ⟩)
       refine wpAnyH_done (by kernel_rfl) ?_ _
       go_wp2
       refine bodyPost_ret (v := .tuple #[.int .i64 d, .string xs[k].es[kx].s]) (by simp [results, Tryz.results178, go_sem]) rfl ⟨_, _, rfl, Hq.out.nms hk _ (List.getElem_mem hkl), pC, G8.trans bw⟩

theorem newVol_any (w : World) :
  Calls Tryz.prog 38 #[] w fun e w' => ∃ v, e = .returned v /\ YV w' w.heap.size v vol0 /\ Below w.heap.size w w' := by
 obtain ⟨w1, hW1⟩ : ∃ W, w.alloc (.cells #[.int .i64 0, .slice none 0 0] 26) = W := ⟨_, rfl⟩
 have B1 : Below w.heap.size w w1 := by rw [<- hW1]; exact belA (bel0 w) _
 have k1 : Blk w1 w.heap.size 26 #[.int .i64 0, .slice none 0 0] := by rw [<- hW1]; exact Blk.new' _ _ _ _ rfl
 have own := World.ownsRow_lit (e := 36) (size := 5) w1 #[.int .i64 1, .int .i64 2, .int .i64 1, .string ⟨#[]⟩, .slice none 0 0] 1 (Nat.le_refl _) (by unfold maxLen; omega) rfl
 have B2 : Below w.heap.size w (w1.alloc (.cells #[.int .i64 1, .int .i64 2, .int .i64 1, .string ⟨#[]⟩, .slice none 0 0] 36)) := belA B1 _
 have k2 := k1.alloc (.cells #[.int .i64 1, .int .i64 2, .int .i64 1, .string ⟨#[]⟩, .slice none 0 0] 36)
 have Y2 : YR (w1.alloc (.cells #[.int .i64 1, .int .i64 2, .int .i64 1, .string ⟨#[]⟩, .slice none 0 0] 36)) w1.heap.size w1.heap.size 1 vol0.xs [.slice none 0 0] := ⟨own, rfl, fun i hi => ⟨_, by have : i = 0 := (by have h1 : i < 1 := hi; omega); subst this; rfl, by have : i = 0 := (by have h1 : i < 1 := hi; omega); subst this; exact own_nilC _ _ _ _⟩⟩
 have S1 : w1.heap.size = w.heap.size + 1 := by rw [<- hW1]; simp
 have HW1 := Lib.hid hW1
 have HS := Lib.hid S1
 have B2' := Lib.hid B2
 have Y2' := Lib.hid Y2
 have K2 := Lib.hid k2
 obtain ⟨x_0, x_1⟩ := k2.g2
 obtain ⟨xf0, xf1⟩ := k2.f2
 have xl := k2.lt
 clear hW1 S1 k1 own B1 B2 Y2 k2
 go_enter Tryz.func38, Tryz.ntmps38
 go_upto_region 1 with fail
 rw [HW1.out]
 go_wp2
 refine foldBPL ?_
 intro wf hwf
 have kf : Blk wf w.heap.size 26 #[.int .i64 2, .slice (some ⟨w1.heap.size, 0, none⟩) 1 1] := by rw [hwf]; exact (K2.out.put 0 (.int .i64 2) _ rfl).put 1 (.slice (some ⟨w1.heap.size, 0, none⟩) 1 1) _ rfl
 have Yf : YR wf w1.heap.size w1.heap.size 1 vol0.xs [.slice none 0 0] := by rw [hwf]; exact (Y2'.out.farV K2.out 0 _).farV (K2.out.put 0 (.int .i64 2) #[.int .i64 2, .slice none 0 0] rfl) 1 _
 have Bf : Below w.heap.size w wf := by rw [hwf]; exact belC (belC B2'.out _ _ (Nat.le_refl _) _) _ _ (Nat.le_refl _) _
 clear hwf x_0 x_1 xf0 xf1 xl
 obtain ⟨x_0, x_1⟩ := kf.g2
 refine bodyPost_ret (v := .agg #[.int .i64 2, .slice (some ⟨w1.heap.size, 0, none⟩) 1 1]) (by simp [results, Tryz.results38, go_sem, x_0, x_1]) rfl ⟨_, rfl, ⟨w1.heap.size, 1, _, rfl, Yf.more (by have := HS.out; omega)⟩, Bf⟩

end Go.Proofs.YtjjniapamdleoaaGreatDoor
