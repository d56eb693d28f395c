/- VolDo of a file that is made or taken away: what the reference gives, word for word. -/
import Derived.Test.YtjjniapamdleoaaGreatDoorRCSdo
import Derived.Test.YtjjniapamdleoaaGreatDoorRCWkV
import Derived.Test.YtjjniapamdleoaaGreatDoorRCL6V
namespace Go.Proofs.YtjjniapamdleoaaGreatDoor
open Go Go.RowKit
set_option maxHeartbeats 8000000
set_option maxRecDepth 100000

theorem YR.farB {w : World} {lo g c b : Nat} {xs : List InoD} {vs : List Value} (h : YR w lo g c xs vs) (hb : b < lo) (j : Nat) (u : Value) : YR (w.setCell ⟨b, j, none⟩ u) lo g c xs vs :=
 h.grownC (only_setCell (p := ⟨b, j, none⟩) (grown_refl w (some b)) (.inl rfl) u) hb
theorem YRe.below {w w' : World} {lo g c : Nat} {xs : List InoD} (h : ∃ us, YR w lo g c xs us) (hb : Below w.heap.size w w') : ∃ us, YR w' lo g c xs us := by
 obtain ⟨us, h⟩ := h
 exact ⟨us, h.below hb⟩
theorem YRe.isC {w : World} {lo g c : Nat} {xs : List InoD} (h : ∃ us, YR w lo g c xs us) (nx : Int) : IsVolC w (.agg #[.int .i64 nx, .slice (some ⟨g, 0, none⟩) xs.length c]) ⟨nx, xs⟩ := by
 obtain ⟨us, h⟩ := h
 exact h.isC nx
/-- What a call answers: a code and a volume of its own, that meet Q. -/
def VolPost (w0 : World) (Q : Int -> VolD -> Prop) (e : Ending) (w' : World) : Prop :=
 ∃ (V' : VolD) (g c : Nat) (r0 r1 : Int) (r2 r3 : ByteArray), e = .returned (.tuple #[.agg #[.int .i64 V'.nx, .slice (some ⟨g, 0, none⟩) V'.xs.length c], .agg #[.int .i64 r0, .int .i64 r1, .string r2, .string r3]]) /\ Q r0 V' /\ ∃ us, YR w' w0.heap.size g c V'.xs us
theorem mem4q_nnw {G P : (Nat) -> (Nat) -> (World) -> Prop} {R : Prop} (use : (∀ (x0 : Nat) (x1 : Nat) (x2 : World), P x0 x1 x2 -> G x0 x1 x2) -> R) (key : ∀ (x0 : Nat) (x1 : Nat) (x2 : World), P x0 x1 x2 -> G x0 x1 x2) : R := use key
theorem mem4q_nw {G P : (Nat) -> (World) -> Prop} {R : Prop} (use : (∀ (x0 : Nat) (x1 : World), P x0 x1 -> G x0 x1) -> R) (key : ∀ (x0 : Nat) (x1 : World), P x0 x1 -> G x0 x1) : R := use key
theorem mem4q_onnnniibbw {G P : (VolD) -> (Nat) -> (Nat) -> (Nat) -> (Nat) -> (Int) -> (Int) -> (ByteArray) -> (ByteArray) -> (World) -> Prop} {R : Prop} (use : (∀ (x0 : VolD) (x1 : Nat) (x2 : Nat) (x3 : Nat) (x4 : Nat) (x5 : Int) (x6 : Int) (x7 : ByteArray) (x8 : ByteArray) (x9 : World), P x0 x1 x2 x3 x4 x5 x6 x7 x8 x9 -> G x0 x1 x2 x3 x4 x5 x6 x7 x8 x9) -> R) (key : ∀ (x0 : VolD) (x1 : Nat) (x2 : Nat) (x3 : Nat) (x4 : Nat) (x5 : Int) (x6 : Int) (x7 : ByteArray) (x8 : ByteArray) (x9 : World), P x0 x1 x2 x3 x4 x5 x6 x7 x8 x9 -> G x0 x1 x2 x3 x4 x5 x6 x7 x8 x9) : R := use key
theorem mem4q_nnnw {G P : (Nat) -> (Nat) -> (Nat) -> (World) -> Prop} {R : Prop} (use : (∀ (x0 : Nat) (x1 : Nat) (x2 : Nat) (x3 : World), P x0 x1 x2 x3 -> G x0 x1 x2 x3) -> R) (key : ∀ (x0 : Nat) (x1 : Nat) (x2 : Nat) (x3 : World), P x0 x1 x2 x3 -> G x0 x1 x2 x3) : R := use key
theorem mem4q_onnnnniibbw {G P : (VolD) -> (Nat) -> (Nat) -> (Nat) -> (Nat) -> (Nat) -> (Int) -> (Int) -> (ByteArray) -> (ByteArray) -> (World) -> Prop} {R : Prop} (use : (∀ (x0 : VolD) (x1 : Nat) (x2 : Nat) (x3 : Nat) (x4 : Nat) (x5 : Nat) (x6 : Int) (x7 : Int) (x8 : ByteArray) (x9 : ByteArray) (x10 : World), P x0 x1 x2 x3 x4 x5 x6 x7 x8 x9 x10 -> G x0 x1 x2 x3 x4 x5 x6 x7 x8 x9 x10) -> R) (key : ∀ (x0 : VolD) (x1 : Nat) (x2 : Nat) (x3 : Nat) (x4 : Nat) (x5 : Nat) (x6 : Int) (x7 : Int) (x8 : ByteArray) (x9 : ByteArray) (x10 : World), P x0 x1 x2 x3 x4 x5 x6 x7 x8 x9 x10 -> G x0 x1 x2 x3 x4 x5 x6 x7 x8 x9 x10) : R := use key
theorem mem4q_nnnnw {G P : (Nat) -> (Nat) -> (Nat) -> (Nat) -> (World) -> Prop} {R : Prop} (use : (∀ (x0 : Nat) (x1 : Nat) (x2 : Nat) (x3 : Nat) (x4 : World), P x0 x1 x2 x3 x4 -> G x0 x1 x2 x3 x4) -> R) (key : ∀ (x0 : Nat) (x1 : Nat) (x2 : Nat) (x3 : Nat) (x4 : World), P x0 x1 x2 x3 x4 -> G x0 x1 x2 x3 x4) : R := use key
theorem mem4q_onnnnnniibbw {G P : (VolD) -> (Nat) -> (Nat) -> (Nat) -> (Nat) -> (Nat) -> (Nat) -> (Int) -> (Int) -> (ByteArray) -> (ByteArray) -> (World) -> Prop} {R : Prop} (use : (∀ (x0 : VolD) (x1 : Nat) (x2 : Nat) (x3 : Nat) (x4 : Nat) (x5 : Nat) (x6 : Nat) (x7 : Int) (x8 : Int) (x9 : ByteArray) (x10 : ByteArray) (x11 : World), P x0 x1 x2 x3 x4 x5 x6 x7 x8 x9 x10 x11 -> G x0 x1 x2 x3 x4 x5 x6 x7 x8 x9 x10 x11) -> R) (key : ∀ (x0 : VolD) (x1 : Nat) (x2 : Nat) (x3 : Nat) (x4 : Nat) (x5 : Nat) (x6 : Nat) (x7 : Int) (x8 : Int) (x9 : ByteArray) (x10 : ByteArray) (x11 : World), P x0 x1 x2 x3 x4 x5 x6 x7 x8 x9 x10 x11 -> G x0 x1 x2 x3 x4 x5 x6 x7 x8 x9 x10 x11) : R := use key

theorem volDo_q (v : Value) (V : VolD) (K : Int) (sm : szV V <= 1048576) (hv : VolP V.nx V.xs) (hq : QV K V) (h1K : 1 <= K) (hKl : K <= 1000000) (kd a : Int) (s : ByteArray) (hkd : kd = 1 ∨ kd = 3) (Q : Int -> VolD -> Prop) (hQ0 : ∀ r, r ≠ 0 -> Q r V)
  (hQ1 : kd = 1 -> ∀ (k : Nat) (hk : k < V.xs.length), plc V.xs a = (k : Int) -> V.xs[k].kd = 2 -> V.xs[k].es.find? (isN s) = none -> V.xs[k].es.length < 12 -> V.nx < 100000 -> Q 0 ⟨V.nx + 1, ptE (V.xs ++ [(⟨V.nx, 1, 1, ⟨#[]⟩, []⟩ : InoD)]) k (addP V.xs[k].es s V.nx).1⟩)
  (hQ3 : kd = 3 -> ∀ (k : Nat) (hk : k < V.xs.length), plc V.xs a = (k : Int) -> ∀ (i : Nat) (hi : i < V.xs[k].es.length) (j : Nat) (hj : j < V.xs.length), V.xs[k].es.find? (isN s) = some V.xs[k].es[i] -> V.xs[j].id = V.xs[k].es[i].d -> V.xs[j].es = [] -> Q 0 ⟨V.nx, lessV (ptE V.xs k (dropP V.xs[k].es s).1) j V.xs[j].id (V.xs[j].ln - 1)⟩) (w : World) (hC : IsVolC w v V) :
  Calls Tryz.prog 80 #[v, .agg #[.int .i64 kd, .int .i64 a, .string s, .int .i64 0, .string ⟨#[]⟩, .string ⟨#[]⟩]] w fun e w' => VolPost w Q e w' /\ Below w.heap.size w w' := by
 have Hok := Lib.hid (fun W hW => volOk_spec v V sm W hW)
 have hok := volOkB_iff.2 hv
 simp only [hok] at Hok
 have Hcp := Lib.hid (fun W (hW : IsVolC W v V) => l6Copy_own v V hv.n.1 (by have := hv.n.2; omega) (fun x hx => by have := es_len hv hx; omega) W hW.is)
 have Hdo := Lib.hid (fun v W hW => l6Do_q v V K hq h1K hKl kd a s 0 ⟨#[]⟩ ⟨#[]⟩ hkd Q hQ0 hQ1 hQ3 W hW)
 have hvv := Lib.hid hC
 obtain ⟨A, c, rfl, _⟩ := hC
 obtain ⟨nx, xs⟩ := V
 simp only at Hok Hcp Hdo ⊢
 clear hv sm hok hq h1K hKl hkd hQ0 hQ1 hQ3
 obtain ⟨W1, hW1⟩ : ∃ W1, (((w.alloc (.cells #[.int .i64 nx, .slice A xs.length c] 26)).alloc (.cells #[.int .i64 kd, .int .i64 a, .string s, .int .i64 0, .string ⟨#[]⟩, .string ⟨#[]⟩] 95)).alloc (.cells #[.int .i64 0, .slice none 0 0] 26)).alloc (.cells #[.int .i64 0, .int .i64 0, .string ⟨#[]⟩, .string ⟨#[]⟩] 54) = W1 := ⟨_, rfl⟩
 have B1 : Below w.heap.size w W1 := by rw [<- hW1]; exact belA (belA (belA (belA (bel0 w) _) _) _) _
 have hVV : Blk W1 w.heap.size 26 #[.int .i64 nx, .slice A xs.length c] := by rw [<- hW1]; exact (((Blk.new' _ _ _ _ rfl).alloc _).alloc _).alloc _
 have hKK : Blk W1 (w.heap.size + 1) 95 #[.int .i64 kd, .int .i64 a, .string s, .int .i64 0, .string ⟨#[]⟩, .string ⟨#[]⟩] := by rw [<- hW1]; exact ((Blk.new' _ _ _ _ (by simp)).alloc _).alloc _
 have hXX : Blk W1 (w.heap.size + 2) 26 #[.int .i64 0, .slice none 0 0] := by rw [<- hW1]; exact (Blk.new' _ _ _ _ (by simp)).alloc _
 have hRR : Blk W1 (w.heap.size + 3) 54 #[.int .i64 0, .int .i64 0, .string ⟨#[]⟩, .string ⟨#[]⟩] := by rw [<- hW1]; exact Blk.new' _ _ _ _ (by simp)
 have HW1 := Lib.hid hW1
 have VV := Lib.hid hVV
 have KK := Lib.hid hKK
 have XX := Lib.hid hXX
 have RR := Lib.hid hRR
 clear hW1 hVV hKK hXX hRR
 have v0 := VV.out.get (x := .int .i64 nx) 0 rfl
 have v1 := VV.out.get (x := .slice A xs.length c) 1 rfl
 go_enter Tryz.func80, Tryz.ntmps80
 go_wp2_with fail
 rw [HW1.out]
 refine (Hok.out W1 (hvv.out.next B1)).mono ?_
 rintro e w2 ⟨rfl, hb2⟩
 have B2 := belN B1 hb2
 have VV2 := Lib.hid (VV.out.below hb2 VV.out.lt)
 have KK2 := Lib.hid (KK.out.below hb2 KK.out.lt)
 have XX2 := Lib.hid (XX.out.below hb2 XX.out.lt)
 have RR2 := Lib.hid (RR.out.below hb2 RR.out.lt)
 clear VV KK XX RR
 clear v0 v1
 have v0 := VV2.out.get (x := .int .i64 nx) 0 rfl
 have v1 := VV2.out.get (x := .slice A xs.length c) 1 rfl
 have k0 := KK2.out.get (x := .int .i64 kd) 0 rfl
 have k1 := KK2.out.get (x := .int .i64 a) 1 rfl
 have k2 := KK2.out.get (x := .string s) 2 rfl
 have k3 := KK2.out.get (x := .int .i64 0) 3 rfl
 have k4 := KK2.out.get (x := .string ⟨#[]⟩) 4 rfl
 have k5 := KK2.out.get (x := .string ⟨#[]⟩) 5 rfl
 go_wp2_with fail
 go_cut [6, 7] from 13 (fun p q wx => ∃ (g h : Nat) (V9 : VolD) (g8 c8 : Nat) (r0 r1 : Int) (r2 r3 : ByteArray), p = .pointer (some ⟨g, 0, none⟩) /\ q = .pointer (some ⟨h, 0, none⟩) /\ Hid (Blk wx g 26 #[.int .i64 V9.nx, .slice (some ⟨g8, 0, none⟩) V9.xs.length c8]) /\ Hid (Blk wx h 54 #[.int .i64 r0, .int .i64 r1, .string r2, .string r3]) /\ w2.heap.size <= g /\ w2.heap.size <= h /\ Hid (Q r0 V9) /\ Hid (∃ us, YR wx w2.heap.size g8 c8 V9.xs us) /\ Below w2.heap.size w2 wx)
 case first =>
  obtain ⟨g1, hg1⟩ : ∃ g1, g1 = w2.heap.size := ⟨_, rfl⟩
  have hVl := VV2.out.lt
  have hKl := KK2.out.lt
  have hRl := RR2.out.lt
  refine wp_region_held_drew (S := fun w' => w'.cell? ⟨w.heap.size, 0, none⟩ = some (.int .i64 nx) /\ w'.cell? ⟨w.heap.size, 1, none⟩ = some (.slice A xs.length c) /\ w'.cell? ⟨w.heap.size + 1, 0, none⟩ = some (.int .i64 kd) /\ w'.cell? ⟨w.heap.size + 1, 1, none⟩ = some (.int .i64 a) /\ w'.cell? ⟨w.heap.size + 1, 2, none⟩ = some (.string s) /\ w'.cell? ⟨w.heap.size + 1, 3, none⟩ = some (.int .i64 0) /\ w'.cell? ⟨w.heap.size + 1, 4, none⟩ = some (.string ⟨#[]⟩) /\ w'.cell? ⟨w.heap.size + 1, 5, none⟩ = some (.string ⟨#[]⟩)) (by kernel_rfl) (by exact ⟨VV2.out.get 0 rfl, VV2.out.get 1 rfl, KK2.out.get 0 rfl, KK2.out.get 1 rfl, KK2.out.get 2 rfl, KK2.out.get 3 rfl, KK2.out.get 4 rfl, KK2.out.get 5 rfl⟩) (fun hHeld => ?_)
  clear hHeld
  refine foldH ?_
  intro r hr0
  have bw : w2.grownBy r (some g1) := by rw [hr0]; exact gb_below (grown_refl _ _) (bel0 w2).drew
  have kV : Blk r w.heap.size 26 #[.int .i64 nx, .slice A xs.length c] := by rw [hr0]; exact VV2.out.drew
  have kC : Blk r (w.heap.size + 1) 95 #[.int .i64 kd, .int .i64 a, .string s, .int .i64 0, .string ⟨#[]⟩, .string ⟨#[]⟩] := by rw [hr0]; exact KK2.out.drew
  clear hr0
  apply mem4q_onnnnnniibbw (P := fun V9 aR aX c8 c9 g8 g9 r0 r1 r2 r3 q => w2.grownBy q (some g1) /\ Blk q (w.heap.size + 1) 95 #[.int .i64 kd, .int .i64 a, .string s, .int .i64 0, .string ⟨#[]⟩, .string ⟨#[]⟩] /\ Blk q aR 54 #[.int .i64 0, .int .i64 0, .string ⟨#[]⟩, .string ⟨#[]⟩] /\ Blk q w.heap.size 26 #[.int .i64 nx, .slice A xs.length c] /\ Blk q aX 26 #[.int .i64 0, .slice none 0 0] /\ (∃ us, YR q w2.heap.size g8 c8 V9.xs us) /\ Hid (Q r0 V9) /\ w2.heap.size <= aR /\ w2.heap.size <= aX)
  case use =>
   intro key_vq_1_3_7_8
   apply mem4q_nnnnw (P := fun aR aX c9 g9 q => w2.grownBy q (some g1) /\ Blk q (w.heap.size + 1) 95 #[.int .i64 kd, .int .i64 a, .string s, .int .i64 0, .string ⟨#[]⟩, .string ⟨#[]⟩] /\ Blk q aR 54 #[.int .i64 0, .int .i64 0, .string ⟨#[]⟩, .string ⟨#[]⟩] /\ Blk q w.heap.size 26 #[.int .i64 nx, .slice A xs.length c] /\ Blk q aX 26 #[.int .i64 0, .slice none 0 0] /\ (∃ us, YR q w2.heap.size g9 c9 xs us) /\ w2.heap.size <= aR /\ w2.heap.size <= aX)
   case use =>
    intro key_vq_1_7_8
    apply mem4q_onnnnniibbw (P := fun V9 aR c8 c9 g8 g9 r0 r1 r2 r3 q => w2.grownBy q (some g1) /\ Blk q (w.heap.size + 1) 95 #[.int .i64 kd, .int .i64 a, .string s, .int .i64 0, .string ⟨#[]⟩, .string ⟨#[]⟩] /\ Blk q aR 54 #[.int .i64 0, .int .i64 0, .string ⟨#[]⟩, .string ⟨#[]⟩] /\ Blk q w.heap.size 26 #[.int .i64 nx, .slice A xs.length c] /\ (∃ us, YR q w2.heap.size g8 c8 V9.xs us) /\ Hid (Q r0 V9) /\ w2.heap.size <= aR)
    case use =>
     intro key_vq_1_3_8
     apply mem4q_onnnnniibbw (P := fun V9 aX c8 c9 g8 g9 r0 r1 r2 r3 q => w2.grownBy q (some g1) /\ Blk q (w.heap.size + 1) 95 #[.int .i64 kd, .int .i64 a, .string s, .int .i64 0, .string ⟨#[]⟩, .string ⟨#[]⟩] /\ Blk q w.heap.size 26 #[.int .i64 nx, .slice A xs.length c] /\ Blk q aX 26 #[.int .i64 0, .slice none 0 0] /\ (∃ us, YR q w2.heap.size g8 c8 V9.xs us) /\ Hid (Q r0 V9) /\ w2.heap.size <= aX)
     case use =>
      intro key_vq_1_3_7
      apply mem4q_nnw (P := fun aR aX q => w2.grownBy q (some g1) /\ Blk q (w.heap.size + 1) 95 #[.int .i64 kd, .int .i64 a, .string s, .int .i64 0, .string ⟨#[]⟩, .string ⟨#[]⟩] /\ Blk q aR 54 #[.int .i64 0, .int .i64 0, .string ⟨#[]⟩, .string ⟨#[]⟩] /\ Blk q w.heap.size 26 #[.int .i64 nx, .slice A xs.length c] /\ Blk q aX 26 #[.int .i64 0, .slice none 0 0] /\ w2.heap.size <= aR /\ w2.heap.size <= aX)
      case use =>
       intro key_vq_7_8
       apply mem4q_nnnw (P := fun aR c9 g9 q => w2.grownBy q (some g1) /\ Blk q (w.heap.size + 1) 95 #[.int .i64 kd, .int .i64 a, .string s, .int .i64 0, .string ⟨#[]⟩, .string ⟨#[]⟩] /\ Blk q aR 54 #[.int .i64 0, .int .i64 0, .string ⟨#[]⟩, .string ⟨#[]⟩] /\ Blk q w.heap.size 26 #[.int .i64 nx, .slice A xs.length c] /\ (∃ us, YR q w2.heap.size g9 c9 xs us) /\ w2.heap.size <= aR)
       case use =>
        intro key_vq_1_8
        apply mem4q_nnnw (P := fun aX c9 g9 q => w2.grownBy q (some g1) /\ Blk q (w.heap.size + 1) 95 #[.int .i64 kd, .int .i64 a, .string s, .int .i64 0, .string ⟨#[]⟩, .string ⟨#[]⟩] /\ Blk q w.heap.size 26 #[.int .i64 nx, .slice A xs.length c] /\ Blk q aX 26 #[.int .i64 0, .slice none 0 0] /\ (∃ us, YR q w2.heap.size g9 c9 xs us) /\ w2.heap.size <= aX)
        case use =>
         intro key_vq_1_7
         apply mem4q_onnnniibbw (P := fun V9 c8 c9 g8 g9 r0 r1 r2 r3 q => w2.grownBy q (some g1) /\ Blk q (w.heap.size + 1) 95 #[.int .i64 kd, .int .i64 a, .string s, .int .i64 0, .string ⟨#[]⟩, .string ⟨#[]⟩] /\ Blk q w.heap.size 26 #[.int .i64 nx, .slice A xs.length c] /\ (∃ us, YR q w2.heap.size g8 c8 V9.xs us) /\ Hid (Q r0 V9))
         case use =>
          intro key_vq_1_3
          apply mem4q_nw (P := fun aR q => w2.grownBy q (some g1) /\ Blk q (w.heap.size + 1) 95 #[.int .i64 kd, .int .i64 a, .string s, .int .i64 0, .string ⟨#[]⟩, .string ⟨#[]⟩] /\ Blk q aR 54 #[.int .i64 0, .int .i64 0, .string ⟨#[]⟩, .string ⟨#[]⟩] /\ Blk q w.heap.size 26 #[.int .i64 nx, .slice A xs.length c] /\ w2.heap.size <= aR)
          case use =>
           intro key_vq_8
           apply mem4q_nw (P := fun aX q => w2.grownBy q (some g1) /\ Blk q (w.heap.size + 1) 95 #[.int .i64 kd, .int .i64 a, .string s, .int .i64 0, .string ⟨#[]⟩, .string ⟨#[]⟩] /\ Blk q w.heap.size 26 #[.int .i64 nx, .slice A xs.length c] /\ Blk q aX 26 #[.int .i64 0, .slice none 0 0] /\ w2.heap.size <= aX)
           case use =>
            intro key_vq_7
            apply mem4q_nnw (P := fun c9 g9 q => w2.grownBy q (some g1) /\ Blk q (w.heap.size + 1) 95 #[.int .i64 kd, .int .i64 a, .string s, .int .i64 0, .string ⟨#[]⟩, .string ⟨#[]⟩] /\ Blk q w.heap.size 26 #[.int .i64 nx, .slice A xs.length c] /\ (∃ us, YR q w2.heap.size g9 c9 xs us))
            case use =>
             intro key_vq_1
             refine tkW_ 0 ?_ (hS := by exact ⟨kV.get 0 rfl, kV.get 1 rfl, kC.get 0 rfl, kC.get 1 rfl, kC.get 2 rfl, kC.get 3 rfl, kC.get 4 rfl, kC.get 5 rfl⟩)
             refine tkW_ 2 ?_ (hS := by exact ⟨kV.get 0 rfl, kV.get 1 rfl, kC.get 0 rfl, kC.get 1 rfl, kC.get 2 rfl, kC.get 3 rfl, kC.get 4 rfl, kC.get 5 rfl⟩)
             refine wpAnyH_ready (rs := [1, 7, 8]) (by kernel_rfl) (by simp) ?_
             refine AllReadyH.cons (o := ?oi60003) ?hi60003 (fun K hK => ?br60003) (AllReadyH.cons (o := ?oi60004) ?hi60004 (fun K hK => ?br60004) (AllReadyH.cons (o := ?oi60005) ?hi60005 (fun K hK => ?br60005) AllReadyH.nil))
             case hi60003 => (conv => lhs; simp only [gT_, gZ_, gS_]); try exact rfl
             case hi60004 => (conv => lhs; simp only [gT_, gZ_, gS_]); try exact rfl
             case hi60005 => (conv => lhs; simp only [gT_, gZ_, gS_]); try exact rfl
             case br60003 =>
              go_simp
              go_at_call 78
              refine (Hcp.out _ (hvv.out.next (belN B2 (belG (bel0 w2) bw (by omega))))).mono ?_
              rintro e q ⟨g9, c9, us9, rfl, hY9, _, hb⟩
              have bw2 := gb_below bw hb
              have kV2 := kV.below hb kV.lt
              have kC2 := kC.below hb kC.lt
              have pY2 : ∃ us, YR q w2.heap.size g9 c9 xs us := ⟨us9, hY9.more bw.size⟩
              refine hK.out _ _ (by exact ⟨kV2.get 0 rfl, kV2.get 1 rfl, kC2.get 0 rfl, kC2.get 1 rfl, kC2.get 2 rfl, kC2.get 3 rfl, kC2.get 4 rfl, kC2.get 5 rfl⟩) (fun _ => ?_)
              clear hK K
              try simp only [Act.put, pT_, pZ_, pS_]
              exact key_vq_1 c9 g9 q ⟨bw2, kC2, kV2, pY2⟩
             case br60004 =>
              go_simp
              refine hK.out _ _ (by exact ⟨(kV.alloc _).get 0 rfl, (kV.alloc _).get 1 rfl, (kC.alloc _).get 0 rfl, (kC.alloc _).get 1 rfl, (kC.alloc _).get 2 rfl, (kC.alloc _).get 3 rfl, (kC.alloc _).get 4 rfl, (kC.alloc _).get 5 rfl⟩) (fun _ => ?_)
              clear hK K
              try simp only [Act.put, pT_, pZ_, pS_]
              refine foldH ?_
              intro q hq
              obtain ⟨aX, ha⟩ : ∃ g, r.heap.size = g := ⟨_, rfl⟩
              rw [ha]
              have bw2 : w2.grownBy q (some g1) := by rw [hq]; exact gb_below bw (belA (bel0 r) (.cells #[.int .i64 0, .slice none 0 0] 26))
              have kV2 : Blk q _ _ _ := hq ▸ kV.alloc (.cells #[.int .i64 0, .slice none 0 0] 26)
              have kC2 : Blk q _ _ _ := hq ▸ kC.alloc (.cells #[.int .i64 0, .slice none 0 0] 26)
              have kX2 : Blk q aX 26 #[.int .i64 0, .slice none 0 0] := by rw [hq, <- ha]; exact Blk.new' _ _ _ _ rfl
              have laX : w2.heap.size <= aX := by rw [<- ha]; exact bw.size
              exact key_vq_7 aX q ⟨bw2, kC2, kV2, kX2, laX⟩
             case br60005 =>
              go_simp
              refine hK.out _ _ (by exact ⟨(kV.alloc _).get 0 rfl, (kV.alloc _).get 1 rfl, (kC.alloc _).get 0 rfl, (kC.alloc _).get 1 rfl, (kC.alloc _).get 2 rfl, (kC.alloc _).get 3 rfl, (kC.alloc _).get 4 rfl, (kC.alloc _).get 5 rfl⟩) (fun _ => ?_)
              clear hK K
              try simp only [Act.put, pT_, pZ_, pS_]
              refine foldH ?_
              intro q hq
              obtain ⟨aR, ha⟩ : ∃ g, r.heap.size = g := ⟨_, rfl⟩
              rw [ha]
              have bw2 : w2.grownBy q (some g1) := by rw [hq]; exact gb_below bw (belA (bel0 r) (.cells #[.int .i64 0, .int .i64 0, .string ⟨#[]⟩, .string ⟨#[]⟩] 54))
              have kV2 : Blk q _ _ _ := hq ▸ kV.alloc (.cells #[.int .i64 0, .int .i64 0, .string ⟨#[]⟩, .string ⟨#[]⟩] 54)
              have kC2 : Blk q _ _ _ := hq ▸ kC.alloc (.cells #[.int .i64 0, .int .i64 0, .string ⟨#[]⟩, .string ⟨#[]⟩] 54)
              have kR2 : Blk q aR 54 #[.int .i64 0, .int .i64 0, .string ⟨#[]⟩, .string ⟨#[]⟩] := by rw [hq, <- ha]; exact Blk.new' _ _ _ _ rfl
              have laR : w2.heap.size <= aR := by rw [<- ha]; exact bw.size
              exact key_vq_8 aR q ⟨bw2, kC2, kR2, kV2, laR⟩
            case key =>
             rintro c9 g9 r ⟨bw, kC, kV, pY⟩
             try dsimp only
             refine wpAnyH_ready (rs := [3, 7, 8]) (by kernel_rfl) (by simp) ?_
             refine AllReadyH.cons (o := ?oi60006) ?hi60006 (fun K hK => ?br60006) (AllReadyH.cons (o := ?oi60007) ?hi60007 (fun K hK => ?br60007) (AllReadyH.cons (o := ?oi60008) ?hi60008 (fun K hK => ?br60008) AllReadyH.nil))
             case hi60006 => (conv => lhs; simp only [gT_, gZ_, gS_]); try exact rfl
             case hi60007 => (conv => lhs; simp only [gT_, gZ_, gS_]); try exact rfl
             case hi60008 => (conv => lhs; simp only [gT_, gZ_, gS_]); try exact rfl
             case br60006 =>
              go_simp
              go_at_call 119
              refine (Hdo.out _ _ (YRe.isC pY nx)).mono ?_
              rintro e q ⟨⟨v9, V9, r0, r1, r2, r3, rfl, hQr, hd9⟩, hb⟩
              have bw2 := gb_below bw hb
              have kV2 := kV.below hb kV.lt
              have kC2 := kC.below hb kC.lt
              obtain ⟨g8, c8, hve, pZ2⟩ : ∃ g8 c8, v9 = .agg #[.int .i64 V9.nx, .slice (some ⟨g8, 0, none⟩) V9.xs.length c8] /\ ∃ us, YR q w2.heap.size g8 c8 V9.xs us := by
               rcases hd9 with ⟨rfl, rfl⟩ | ⟨g, c, us, rfl, hy⟩
               ·exact ⟨g9, c9, rfl, YRe.below pY hb⟩
               ·exact ⟨g, c, rfl, us, hy.more bw.size⟩
              subst hve
              have hQ9 : Hid (Q r0 V9) := Lib.hid hQr
              refine hK.out _ _ (by exact ⟨kV2.get 0 rfl, kV2.get 1 rfl, kC2.get 0 rfl, kC2.get 1 rfl, kC2.get 2 rfl, kC2.get 3 rfl, kC2.get 4 rfl, kC2.get 5 rfl⟩) (fun _ => ?_)
              clear hK K
              try simp only [Act.put, pT_, pZ_, pS_]
              refine tkW_ 4 ?_ (hS := by exact ⟨kV2.get 0 rfl, kV2.get 1 rfl, kC2.get 0 rfl, kC2.get 1 rfl, kC2.get 2 rfl, kC2.get 3 rfl, kC2.get 4 rfl, kC2.get 5 rfl⟩)
              refine tkW_ 5 ?_ (hS := by exact ⟨kV2.get 0 rfl, kV2.get 1 rfl, kC2.get 0 rfl, kC2.get 1 rfl, kC2.get 2 rfl, kC2.get 3 rfl, kC2.get 4 rfl, kC2.get 5 rfl⟩)
              refine tkW_ 6 ?_ (hS := by exact ⟨kV2.get 0 rfl, kV2.get 1 rfl, kC2.get 0 rfl, kC2.get 1 rfl, kC2.get 2 rfl, kC2.get 3 rfl, kC2.get 4 rfl, kC2.get 5 rfl⟩)
              exact key_vq_1_3 V9 c8 c9 g8 g9 r0 r1 r2 r3 q ⟨bw2, kC2, kV2, pZ2, hQ9⟩
             case br60007 =>
              go_simp
              refine hK.out _ _ (by exact ⟨(kV.alloc _).get 0 rfl, (kV.alloc _).get 1 rfl, (kC.alloc _).get 0 rfl, (kC.alloc _).get 1 rfl, (kC.alloc _).get 2 rfl, (kC.alloc _).get 3 rfl, (kC.alloc _).get 4 rfl, (kC.alloc _).get 5 rfl⟩) (fun _ => ?_)
              clear hK K
              try simp only [Act.put, pT_, pZ_, pS_]
              refine foldH ?_
              intro q hq
              obtain ⟨aX, ha⟩ : ∃ g, r.heap.size = g := ⟨_, rfl⟩
              rw [ha]
              have bw2 : w2.grownBy q (some g1) := by rw [hq]; exact gb_below bw (belA (bel0 r) (.cells #[.int .i64 0, .slice none 0 0] 26))
              have kV2 : Blk q _ _ _ := hq ▸ kV.alloc (.cells #[.int .i64 0, .slice none 0 0] 26)
              have kC2 : Blk q _ _ _ := hq ▸ kC.alloc (.cells #[.int .i64 0, .slice none 0 0] 26)
              have pY2 : (∃ us, YR q w2.heap.size g9 c9 xs us) := by rw [hq]; exact (YRe.below pY (belA (bel0 _) _))
              have kX2 : Blk q aX 26 #[.int .i64 0, .slice none 0 0] := by rw [hq, <- ha]; exact Blk.new' _ _ _ _ rfl
              have laX : w2.heap.size <= aX := by rw [<- ha]; exact bw.size
              exact key_vq_1_7 aX c9 g9 q ⟨bw2, kC2, kV2, kX2, pY2, laX⟩
             case br60008 =>
              go_simp
              refine hK.out _ _ (by exact ⟨(kV.alloc _).get 0 rfl, (kV.alloc _).get 1 rfl, (kC.alloc _).get 0 rfl, (kC.alloc _).get 1 rfl, (kC.alloc _).get 2 rfl, (kC.alloc _).get 3 rfl, (kC.alloc _).get 4 rfl, (kC.alloc _).get 5 rfl⟩) (fun _ => ?_)
              clear hK K
              try simp only [Act.put, pT_, pZ_, pS_]
              refine foldH ?_
              intro q hq
              obtain ⟨aR, ha⟩ : ∃ g, r.heap.size = g := ⟨_, rfl⟩
              rw [ha]
              have bw2 : w2.grownBy q (some g1) := by rw [hq]; exact gb_below bw (belA (bel0 r) (.cells #[.int .i64 0, .int .i64 0, .string ⟨#[]⟩, .string ⟨#[]⟩] 54))
              have kV2 : Blk q _ _ _ := hq ▸ kV.alloc (.cells #[.int .i64 0, .int .i64 0, .string ⟨#[]⟩, .string ⟨#[]⟩] 54)
              have kC2 : Blk q _ _ _ := hq ▸ kC.alloc (.cells #[.int .i64 0, .int .i64 0, .string ⟨#[]⟩, .string ⟨#[]⟩] 54)
              have pY2 : (∃ us, YR q w2.heap.size g9 c9 xs us) := by rw [hq]; exact (YRe.below pY (belA (bel0 _) _))
              have kR2 : Blk q aR 54 #[.int .i64 0, .int .i64 0, .string ⟨#[]⟩, .string ⟨#[]⟩] := by rw [hq, <- ha]; exact Blk.new' _ _ _ _ rfl
              have laR : w2.heap.size <= aR := by rw [<- ha]; exact bw.size
              exact key_vq_1_8 aR c9 g9 q ⟨bw2, kC2, kR2, kV2, pY2, laR⟩
           case key =>
            rintro aX r ⟨bw, kC, kV, kX, laX⟩
            try dsimp only
            refine rd2_ 1 8 (fun K hK => ?br60012) (fun K hK => ?br60013)
            case br60012 =>
             go_simp
             go_at_call 78
             refine (Hcp.out _ (hvv.out.next (belN B2 (belG (bel0 w2) bw (by omega))))).mono ?_
             rintro e q ⟨g9, c9, us9, rfl, hY9, _, hb⟩
             have bw2 := gb_below bw hb
             have kV2 := kV.below hb kV.lt
             have kC2 := kC.below hb kC.lt
             have kX2 := kX.below hb kX.lt
             have pY2 : ∃ us, YR q w2.heap.size g9 c9 xs us := ⟨us9, hY9.more bw.size⟩
             refine hK.out _ _ (by exact ⟨kV2.get 0 rfl, kV2.get 1 rfl, kC2.get 0 rfl, kC2.get 1 rfl, kC2.get 2 rfl, kC2.get 3 rfl, kC2.get 4 rfl, kC2.get 5 rfl⟩) (fun _ => ?_)
             clear hK K
             try simp only [Act.put, pT_, pZ_, pS_]
             exact key_vq_1_7 aX c9 g9 q ⟨bw2, kC2, kV2, kX2, pY2, laX⟩
            case br60013 =>
             go_simp
             refine hK.out _ _ (by exact ⟨(kV.alloc _).get 0 rfl, (kV.alloc _).get 1 rfl, (kC.alloc _).get 0 rfl, (kC.alloc _).get 1 rfl, (kC.alloc _).get 2 rfl, (kC.alloc _).get 3 rfl, (kC.alloc _).get 4 rfl, (kC.alloc _).get 5 rfl⟩) (fun _ => ?_)
             clear hK K
             try simp only [Act.put, pT_, pZ_, pS_]
             refine foldH ?_
             intro q hq
             obtain ⟨aR, ha⟩ : ∃ g, r.heap.size = g := ⟨_, rfl⟩
             rw [ha]
             have bw2 : w2.grownBy q (some g1) := by rw [hq]; exact gb_below bw (belA (bel0 r) (.cells #[.int .i64 0, .int .i64 0, .string ⟨#[]⟩, .string ⟨#[]⟩] 54))
             have kV2 : Blk q _ _ _ := hq ▸ kV.alloc (.cells #[.int .i64 0, .int .i64 0, .string ⟨#[]⟩, .string ⟨#[]⟩] 54)
             have kC2 : Blk q _ _ _ := hq ▸ kC.alloc (.cells #[.int .i64 0, .int .i64 0, .string ⟨#[]⟩, .string ⟨#[]⟩] 54)
             have kX2 : Blk q _ _ _ := hq ▸ kX.alloc (.cells #[.int .i64 0, .int .i64 0, .string ⟨#[]⟩, .string ⟨#[]⟩] 54)
             have kR2 : Blk q aR 54 #[.int .i64 0, .int .i64 0, .string ⟨#[]⟩, .string ⟨#[]⟩] := by rw [hq, <- ha]; exact Blk.new' _ _ _ _ rfl
             have laR : w2.heap.size <= aR := by rw [<- ha]; exact bw.size
             exact key_vq_7_8 aR aX q ⟨bw2, kC2, kR2, kV2, kX2, laR, laX⟩
          case key =>
           rintro aR r ⟨bw, kC, kR, kV, laR⟩
           try dsimp only
           refine rd2_ 1 7 (fun K hK => ?br60014) (fun K hK => ?br60015)
           case br60014 =>
            go_simp
            go_at_call 78
            refine (Hcp.out _ (hvv.out.next (belN B2 (belG (bel0 w2) bw (by omega))))).mono ?_
            rintro e q ⟨g9, c9, us9, rfl, hY9, _, hb⟩
            have bw2 := gb_below bw hb
            have kV2 := kV.below hb kV.lt
            have kC2 := kC.below hb kC.lt
            have kR2 := kR.below hb kR.lt
            have pY2 : ∃ us, YR q w2.heap.size g9 c9 xs us := ⟨us9, hY9.more bw.size⟩
            refine hK.out _ _ (by exact ⟨kV2.get 0 rfl, kV2.get 1 rfl, kC2.get 0 rfl, kC2.get 1 rfl, kC2.get 2 rfl, kC2.get 3 rfl, kC2.get 4 rfl, kC2.get 5 rfl⟩) (fun _ => ?_)
            clear hK K
            try simp only [Act.put, pT_, pZ_, pS_]
            exact key_vq_1_8 aR c9 g9 q ⟨bw2, kC2, kR2, kV2, pY2, laR⟩
           case br60015 =>
            go_simp
            refine hK.out _ _ (by exact ⟨(kV.alloc _).get 0 rfl, (kV.alloc _).get 1 rfl, (kC.alloc _).get 0 rfl, (kC.alloc _).get 1 rfl, (kC.alloc _).get 2 rfl, (kC.alloc _).get 3 rfl, (kC.alloc _).get 4 rfl, (kC.alloc _).get 5 rfl⟩) (fun _ => ?_)
            clear hK K
            try simp only [Act.put, pT_, pZ_, pS_]
            refine foldH ?_
            intro q hq
            obtain ⟨aX, ha⟩ : ∃ g, r.heap.size = g := ⟨_, rfl⟩
            rw [ha]
            have bw2 : w2.grownBy q (some g1) := by rw [hq]; exact gb_below bw (belA (bel0 r) (.cells #[.int .i64 0, .slice none 0 0] 26))
            have kV2 : Blk q _ _ _ := hq ▸ kV.alloc (.cells #[.int .i64 0, .slice none 0 0] 26)
            have kC2 : Blk q _ _ _ := hq ▸ kC.alloc (.cells #[.int .i64 0, .slice none 0 0] 26)
            have kR2 : Blk q _ _ _ := hq ▸ kR.alloc (.cells #[.int .i64 0, .slice none 0 0] 26)
            have kX2 : Blk q aX 26 #[.int .i64 0, .slice none 0 0] := by rw [hq, <- ha]; exact Blk.new' _ _ _ _ rfl
            have laX : w2.heap.size <= aX := by rw [<- ha]; exact bw.size
            exact key_vq_7_8 aR aX q ⟨bw2, kC2, kR2, kV2, kX2, laR, laX⟩
         case key =>
          rintro V9 c8 c9 g8 g9 r0 r1 r2 r3 r ⟨bw, kC, kV, pZ, hQ9⟩
          try dsimp only
          refine rd2_ 7 8 (fun K hK => ?br60016) (fun K hK => ?br60017)
          case br60016 =>
           go_simp
           refine hK.out _ _ (by exact ⟨(kV.alloc _).get 0 rfl, (kV.alloc _).get 1 rfl, (kC.alloc _).get 0 rfl, (kC.alloc _).get 1 rfl, (kC.alloc _).get 2 rfl, (kC.alloc _).get 3 rfl, (kC.alloc _).get 4 rfl, (kC.alloc _).get 5 rfl⟩) (fun _ => ?_)
           clear hK K
           try simp only [Act.put, pT_, pZ_, pS_]
           refine foldH ?_
           intro q hq
           obtain ⟨aX, ha⟩ : ∃ g, r.heap.size = g := ⟨_, rfl⟩
           rw [ha]
           have bw2 : w2.grownBy q (some g1) := by rw [hq]; exact gb_below bw (belA (bel0 r) (.cells #[.int .i64 0, .slice none 0 0] 26))
           have kV2 : Blk q _ _ _ := hq ▸ kV.alloc (.cells #[.int .i64 0, .slice none 0 0] 26)
           have kC2 : Blk q _ _ _ := hq ▸ kC.alloc (.cells #[.int .i64 0, .slice none 0 0] 26)
           have pZ2 : (∃ us, YR q w2.heap.size g8 c8 V9.xs us) := by rw [hq]; exact (YRe.below pZ (belA (bel0 _) _))
           have kX2 : Blk q aX 26 #[.int .i64 0, .slice none 0 0] := by rw [hq, <- ha]; exact Blk.new' _ _ _ _ rfl
           have laX : w2.heap.size <= aX := by rw [<- ha]; exact bw.size
           exact key_vq_1_3_7 V9 aX c8 c9 g8 g9 r0 r1 r2 r3 q ⟨bw2, kC2, kV2, kX2, pZ2, hQ9, laX⟩
          case br60017 =>
           go_simp
           refine hK.out _ _ (by exact ⟨(kV.alloc _).get 0 rfl, (kV.alloc _).get 1 rfl, (kC.alloc _).get 0 rfl, (kC.alloc _).get 1 rfl, (kC.alloc _).get 2 rfl, (kC.alloc _).get 3 rfl, (kC.alloc _).get 4 rfl, (kC.alloc _).get 5 rfl⟩) (fun _ => ?_)
           clear hK K
           try simp only [Act.put, pT_, pZ_, pS_]
           refine foldH ?_
           intro q hq
           obtain ⟨aR, ha⟩ : ∃ g, r.heap.size = g := ⟨_, rfl⟩
           rw [ha]
           have bw2 : w2.grownBy q (some g1) := by rw [hq]; exact gb_below bw (belA (bel0 r) (.cells #[.int .i64 0, .int .i64 0, .string ⟨#[]⟩, .string ⟨#[]⟩] 54))
           have kV2 : Blk q _ _ _ := hq ▸ kV.alloc (.cells #[.int .i64 0, .int .i64 0, .string ⟨#[]⟩, .string ⟨#[]⟩] 54)
           have kC2 : Blk q _ _ _ := hq ▸ kC.alloc (.cells #[.int .i64 0, .int .i64 0, .string ⟨#[]⟩, .string ⟨#[]⟩] 54)
           have pZ2 : (∃ us, YR q w2.heap.size g8 c8 V9.xs us) := by rw [hq]; exact (YRe.below pZ (belA (bel0 _) _))
           have kR2 : Blk q aR 54 #[.int .i64 0, .int .i64 0, .string ⟨#[]⟩, .string ⟨#[]⟩] := by rw [hq, <- ha]; exact Blk.new' _ _ _ _ rfl
           have laR : w2.heap.size <= aR := by rw [<- ha]; exact bw.size
           exact key_vq_1_3_8 V9 aR c8 c9 g8 g9 r0 r1 r2 r3 q ⟨bw2, kC2, kR2, kV2, pZ2, hQ9, laR⟩
        case key =>
         rintro aX c9 g9 r ⟨bw, kC, kV, kX, pY, laX⟩
         try dsimp only
         refine rd2_ 3 8 (fun K hK => ?br60018) (fun K hK => ?br60019)
         case br60018 =>
          go_simp
          go_at_call 119
          refine (Hdo.out _ _ (YRe.isC pY nx)).mono ?_
          rintro e q ⟨⟨v9, V9, r0, r1, r2, r3, rfl, hQr, hd9⟩, hb⟩
          have bw2 := gb_below bw hb
          have kV2 := kV.below hb kV.lt
          have kC2 := kC.below hb kC.lt
          have kX2 := kX.below hb kX.lt
          obtain ⟨g8, c8, hve, pZ2⟩ : ∃ g8 c8, v9 = .agg #[.int .i64 V9.nx, .slice (some ⟨g8, 0, none⟩) V9.xs.length c8] /\ ∃ us, YR q w2.heap.size g8 c8 V9.xs us := by
           rcases hd9 with ⟨rfl, rfl⟩ | ⟨g, c, us, rfl, hy⟩
           ·exact ⟨g9, c9, rfl, YRe.below pY hb⟩
           ·exact ⟨g, c, rfl, us, hy.more bw.size⟩
          subst hve
          have hQ9 : Hid (Q r0 V9) := Lib.hid hQr
          refine hK.out _ _ (by exact ⟨kV2.get 0 rfl, kV2.get 1 rfl, kC2.get 0 rfl, kC2.get 1 rfl, kC2.get 2 rfl, kC2.get 3 rfl, kC2.get 4 rfl, kC2.get 5 rfl⟩) (fun _ => ?_)
          clear hK K
          try simp only [Act.put, pT_, pZ_, pS_]
          refine tkW_ 4 ?_ (hS := by exact ⟨kV2.get 0 rfl, kV2.get 1 rfl, kC2.get 0 rfl, kC2.get 1 rfl, kC2.get 2 rfl, kC2.get 3 rfl, kC2.get 4 rfl, kC2.get 5 rfl⟩)
          refine tkW_ 5 ?_ (hS := by exact ⟨kV2.get 0 rfl, kV2.get 1 rfl, kC2.get 0 rfl, kC2.get 1 rfl, kC2.get 2 rfl, kC2.get 3 rfl, kC2.get 4 rfl, kC2.get 5 rfl⟩)
          refine tkW_ 6 ?_ (hS := by exact ⟨kV2.get 0 rfl, kV2.get 1 rfl, kC2.get 0 rfl, kC2.get 1 rfl, kC2.get 2 rfl, kC2.get 3 rfl, kC2.get 4 rfl, kC2.get 5 rfl⟩)
          exact key_vq_1_3_7 V9 aX c8 c9 g8 g9 r0 r1 r2 r3 q ⟨bw2, kC2, kV2, kX2, pZ2, hQ9, laX⟩
         case br60019 =>
          go_simp
          refine hK.out _ _ (by exact ⟨(kV.alloc _).get 0 rfl, (kV.alloc _).get 1 rfl, (kC.alloc _).get 0 rfl, (kC.alloc _).get 1 rfl, (kC.alloc _).get 2 rfl, (kC.alloc _).get 3 rfl, (kC.alloc _).get 4 rfl, (kC.alloc _).get 5 rfl⟩) (fun _ => ?_)
          clear hK K
          try simp only [Act.put, pT_, pZ_, pS_]
          refine foldH ?_
          intro q hq
          obtain ⟨aR, ha⟩ : ∃ g, r.heap.size = g := ⟨_, rfl⟩
          rw [ha]
          have bw2 : w2.grownBy q (some g1) := by rw [hq]; exact gb_below bw (belA (bel0 r) (.cells #[.int .i64 0, .int .i64 0, .string ⟨#[]⟩, .string ⟨#[]⟩] 54))
          have kV2 : Blk q _ _ _ := hq ▸ kV.alloc (.cells #[.int .i64 0, .int .i64 0, .string ⟨#[]⟩, .string ⟨#[]⟩] 54)
          have kC2 : Blk q _ _ _ := hq ▸ kC.alloc (.cells #[.int .i64 0, .int .i64 0, .string ⟨#[]⟩, .string ⟨#[]⟩] 54)
          have kX2 : Blk q _ _ _ := hq ▸ kX.alloc (.cells #[.int .i64 0, .int .i64 0, .string ⟨#[]⟩, .string ⟨#[]⟩] 54)
          have pY2 : (∃ us, YR q w2.heap.size g9 c9 xs us) := by rw [hq]; exact (YRe.below pY (belA (bel0 _) _))
          have kR2 : Blk q aR 54 #[.int .i64 0, .int .i64 0, .string ⟨#[]⟩, .string ⟨#[]⟩] := by rw [hq, <- ha]; exact Blk.new' _ _ _ _ rfl
          have laR : w2.heap.size <= aR := by rw [<- ha]; exact bw.size
          exact key_vq_1_7_8 aR aX c9 g9 q ⟨bw2, kC2, kR2, kV2, kX2, pY2, laR, laX⟩
       case key =>
        rintro aR c9 g9 r ⟨bw, kC, kR, kV, pY, laR⟩
        try dsimp only
        refine rd2_ 3 7 (fun K hK => ?br60023) (fun K hK => ?br60024)
        case br60023 =>
         go_simp
         go_at_call 119
         refine (Hdo.out _ _ (YRe.isC pY nx)).mono ?_
         rintro e q ⟨⟨v9, V9, r0, r1, r2, r3, rfl, hQr, hd9⟩, hb⟩
         have bw2 := gb_below bw hb
         have kV2 := kV.below hb kV.lt
         have kC2 := kC.below hb kC.lt
         have kR2 := kR.below hb kR.lt
         obtain ⟨g8, c8, hve, pZ2⟩ : ∃ g8 c8, v9 = .agg #[.int .i64 V9.nx, .slice (some ⟨g8, 0, none⟩) V9.xs.length c8] /\ ∃ us, YR q w2.heap.size g8 c8 V9.xs us := by
          rcases hd9 with ⟨rfl, rfl⟩ | ⟨g, c, us, rfl, hy⟩
          ·exact ⟨g9, c9, rfl, YRe.below pY hb⟩
          ·exact ⟨g, c, rfl, us, hy.more bw.size⟩
         subst hve
         have hQ9 : Hid (Q r0 V9) := Lib.hid hQr
         refine hK.out _ _ (by exact ⟨kV2.get 0 rfl, kV2.get 1 rfl, kC2.get 0 rfl, kC2.get 1 rfl, kC2.get 2 rfl, kC2.get 3 rfl, kC2.get 4 rfl, kC2.get 5 rfl⟩) (fun _ => ?_)
         clear hK K
         try simp only [Act.put, pT_, pZ_, pS_]
         refine tkW_ 4 ?_ (hS := by exact ⟨kV2.get 0 rfl, kV2.get 1 rfl, kC2.get 0 rfl, kC2.get 1 rfl, kC2.get 2 rfl, kC2.get 3 rfl, kC2.get 4 rfl, kC2.get 5 rfl⟩)
         refine tkW_ 5 ?_ (hS := by exact ⟨kV2.get 0 rfl, kV2.get 1 rfl, kC2.get 0 rfl, kC2.get 1 rfl, kC2.get 2 rfl, kC2.get 3 rfl, kC2.get 4 rfl, kC2.get 5 rfl⟩)
         refine tkW_ 6 ?_ (hS := by exact ⟨kV2.get 0 rfl, kV2.get 1 rfl, kC2.get 0 rfl, kC2.get 1 rfl, kC2.get 2 rfl, kC2.get 3 rfl, kC2.get 4 rfl, kC2.get 5 rfl⟩)
         exact key_vq_1_3_8 V9 aR c8 c9 g8 g9 r0 r1 r2 r3 q ⟨bw2, kC2, kR2, kV2, pZ2, hQ9, laR⟩
        case br60024 =>
         go_simp
         refine hK.out _ _ (by exact ⟨(kV.alloc _).get 0 rfl, (kV.alloc _).get 1 rfl, (kC.alloc _).get 0 rfl, (kC.alloc _).get 1 rfl, (kC.alloc _).get 2 rfl, (kC.alloc _).get 3 rfl, (kC.alloc _).get 4 rfl, (kC.alloc _).get 5 rfl⟩) (fun _ => ?_)
         clear hK K
         try simp only [Act.put, pT_, pZ_, pS_]
         refine foldH ?_
         intro q hq
         obtain ⟨aX, ha⟩ : ∃ g, r.heap.size = g := ⟨_, rfl⟩
         rw [ha]
         have bw2 : w2.grownBy q (some g1) := by rw [hq]; exact gb_below bw (belA (bel0 r) (.cells #[.int .i64 0, .slice none 0 0] 26))
         have kV2 : Blk q _ _ _ := hq ▸ kV.alloc (.cells #[.int .i64 0, .slice none 0 0] 26)
         have kC2 : Blk q _ _ _ := hq ▸ kC.alloc (.cells #[.int .i64 0, .slice none 0 0] 26)
         have kR2 : Blk q _ _ _ := hq ▸ kR.alloc (.cells #[.int .i64 0, .slice none 0 0] 26)
         have pY2 : (∃ us, YR q w2.heap.size g9 c9 xs us) := by rw [hq]; exact (YRe.below pY (belA (bel0 _) _))
         have kX2 : Blk q aX 26 #[.int .i64 0, .slice none 0 0] := by rw [hq, <- ha]; exact Blk.new' _ _ _ _ rfl
         have laX : w2.heap.size <= aX := by rw [<- ha]; exact bw.size
         exact key_vq_1_7_8 aR aX c9 g9 q ⟨bw2, kC2, kR2, kV2, kX2, pY2, laR, laX⟩
      case key =>
       rintro aR aX r ⟨bw, kC, kR, kV, kX, laR, laX⟩
       try dsimp only
       refine rd1_ 1 (fun K hK => ?br60028)
       case br60028 =>
        go_simp
        go_at_call 78
        refine (Hcp.out _ (hvv.out.next (belN B2 (belG (bel0 w2) bw (by omega))))).mono ?_
        rintro e q ⟨g9, c9, us9, rfl, hY9, _, hb⟩
        have bw2 := gb_below bw hb
        have kV2 := kV.below hb kV.lt
        have kC2 := kC.below hb kC.lt
        have kX2 := kX.below hb kX.lt
        have kR2 := kR.below hb kR.lt
        have pY2 : ∃ us, YR q w2.heap.size g9 c9 xs us := ⟨us9, hY9.more bw.size⟩
        refine hK.out _ _ (by exact ⟨kV2.get 0 rfl, kV2.get 1 rfl, kC2.get 0 rfl, kC2.get 1 rfl, kC2.get 2 rfl, kC2.get 3 rfl, kC2.get 4 rfl, kC2.get 5 rfl⟩) (fun _ => ?_)
        clear hK K
        try simp only [Act.put, pT_, pZ_, pS_]
        exact key_vq_1_7_8 aR aX c9 g9 q ⟨bw2, kC2, kR2, kV2, kX2, pY2, laR, laX⟩
     case key =>
      rintro V9 aX c8 c9 g8 g9 r0 r1 r2 r3 r ⟨bw, kC, kV, kX, pZ, hQ9, laX⟩
      try dsimp only
      refine rd1_ 8 (fun K hK => ?br60029)
      case br60029 =>
       go_simp
       refine hK.out _ _ (by exact ⟨(kV.alloc _).get 0 rfl, (kV.alloc _).get 1 rfl, (kC.alloc _).get 0 rfl, (kC.alloc _).get 1 rfl, (kC.alloc _).get 2 rfl, (kC.alloc _).get 3 rfl, (kC.alloc _).get 4 rfl, (kC.alloc _).get 5 rfl⟩) (fun _ => ?_)
       clear hK K
       try simp only [Act.put, pT_, pZ_, pS_]
       refine foldH ?_
       intro q hq
       obtain ⟨aR, ha⟩ : ∃ g, r.heap.size = g := ⟨_, rfl⟩
       rw [ha]
       have bw2 : w2.grownBy q (some g1) := by rw [hq]; exact gb_below bw (belA (bel0 r) (.cells #[.int .i64 0, .int .i64 0, .string ⟨#[]⟩, .string ⟨#[]⟩] 54))
       have kV2 : Blk q _ _ _ := hq ▸ kV.alloc (.cells #[.int .i64 0, .int .i64 0, .string ⟨#[]⟩, .string ⟨#[]⟩] 54)
       have kC2 : Blk q _ _ _ := hq ▸ kC.alloc (.cells #[.int .i64 0, .int .i64 0, .string ⟨#[]⟩, .string ⟨#[]⟩] 54)
       have kX2 : Blk q _ _ _ := hq ▸ kX.alloc (.cells #[.int .i64 0, .int .i64 0, .string ⟨#[]⟩, .string ⟨#[]⟩] 54)
       have pZ2 : (∃ us, YR q w2.heap.size g8 c8 V9.xs us) := by rw [hq]; exact (YRe.below pZ (belA (bel0 _) _))
       have kR2 : Blk q aR 54 #[.int .i64 0, .int .i64 0, .string ⟨#[]⟩, .string ⟨#[]⟩] := by rw [hq, <- ha]; exact Blk.new' _ _ _ _ rfl
       have laR : w2.heap.size <= aR := by rw [<- ha]; exact bw.size
       exact key_vq_1_3_7_8 V9 aR aX c8 c9 g8 g9 r0 r1 r2 r3 q ⟨bw2, kC2, kR2, kV2, kX2, pZ2, hQ9, laR, laX⟩
    case key =>
     rintro V9 aR c8 c9 g8 g9 r0 r1 r2 r3 r ⟨bw, kC, kR, kV, pZ, hQ9, laR⟩
     try dsimp only
     refine rd1_ 7 (fun K hK => ?br60030)
     case br60030 =>
      go_simp
      refine hK.out _ _ (by exact ⟨(kV.alloc _).get 0 rfl, (kV.alloc _).get 1 rfl, (kC.alloc _).get 0 rfl, (kC.alloc _).get 1 rfl, (kC.alloc _).get 2 rfl, (kC.alloc _).get 3 rfl, (kC.alloc _).get 4 rfl, (kC.alloc _).get 5 rfl⟩) (fun _ => ?_)
      clear hK K
      try simp only [Act.put, pT_, pZ_, pS_]
      refine foldH ?_
      intro q hq
      obtain ⟨aX, ha⟩ : ∃ g, r.heap.size = g := ⟨_, rfl⟩
      rw [ha]
      have bw2 : w2.grownBy q (some g1) := by rw [hq]; exact gb_below bw (belA (bel0 r) (.cells #[.int .i64 0, .slice none 0 0] 26))
      have kV2 : Blk q _ _ _ := hq ▸ kV.alloc (.cells #[.int .i64 0, .slice none 0 0] 26)
      have kC2 : Blk q _ _ _ := hq ▸ kC.alloc (.cells #[.int .i64 0, .slice none 0 0] 26)
      have kR2 : Blk q _ _ _ := hq ▸ kR.alloc (.cells #[.int .i64 0, .slice none 0 0] 26)
      have pZ2 : (∃ us, YR q w2.heap.size g8 c8 V9.xs us) := by rw [hq]; exact (YRe.below pZ (belA (bel0 _) _))
      have kX2 : Blk q aX 26 #[.int .i64 0, .slice none 0 0] := by rw [hq, <- ha]; exact Blk.new' _ _ _ _ rfl
      have laX : w2.heap.size <= aX := by rw [<- ha]; exact bw.size
      exact key_vq_1_3_7_8 V9 aR aX c8 c9 g8 g9 r0 r1 r2 r3 q ⟨bw2, kC2, kR2, kV2, kX2, pZ2, hQ9, laR, laX⟩
   case key =>
    rintro aR aX c9 g9 r ⟨bw, kC, kR, kV, kX, pY, laR, laX⟩
    try dsimp only
    refine rd1_ 3 (fun K hK => ?br60031)
    case br60031 =>
     go_simp
     go_at_call 119
     refine (Hdo.out _ _ (YRe.isC pY nx)).mono ?_
     rintro e q ⟨⟨v9, V9, r0, r1, r2, r3, rfl, hQr, hd9⟩, hb⟩
     have bw2 := gb_below bw hb
     have kV2 := kV.below hb kV.lt
     have kC2 := kC.below hb kC.lt
     have kX2 := kX.below hb kX.lt
     have kR2 := kR.below hb kR.lt
     obtain ⟨g8, c8, hve, pZ2⟩ : ∃ g8 c8, v9 = .agg #[.int .i64 V9.nx, .slice (some ⟨g8, 0, none⟩) V9.xs.length c8] /\ ∃ us, YR q w2.heap.size g8 c8 V9.xs us := by
      rcases hd9 with ⟨rfl, rfl⟩ | ⟨g, c, us, rfl, hy⟩
      ·exact ⟨g9, c9, rfl, YRe.below pY hb⟩
      ·exact ⟨g, c, rfl, us, hy.more bw.size⟩
     subst hve
     have hQ9 : Hid (Q r0 V9) := Lib.hid hQr
     refine hK.out _ _ (by exact ⟨kV2.get 0 rfl, kV2.get 1 rfl, kC2.get 0 rfl, kC2.get 1 rfl, kC2.get 2 rfl, kC2.get 3 rfl, kC2.get 4 rfl, kC2.get 5 rfl⟩) (fun _ => ?_)
     clear hK K
     try simp only [Act.put, pT_, pZ_, pS_]
     refine tkW_ 4 ?_ (hS := by exact ⟨kV2.get 0 rfl, kV2.get 1 rfl, kC2.get 0 rfl, kC2.get 1 rfl, kC2.get 2 rfl, kC2.get 3 rfl, kC2.get 4 rfl, kC2.get 5 rfl⟩)
     refine tkW_ 5 ?_ (hS := by exact ⟨kV2.get 0 rfl, kV2.get 1 rfl, kC2.get 0 rfl, kC2.get 1 rfl, kC2.get 2 rfl, kC2.get 3 rfl, kC2.get 4 rfl, kC2.get 5 rfl⟩)
     refine tkW_ 6 ?_ (hS := by exact ⟨kV2.get 0 rfl, kV2.get 1 rfl, kC2.get 0 rfl, kC2.get 1 rfl, kC2.get 2 rfl, kC2.get 3 rfl, kC2.get 4 rfl, kC2.get 5 rfl⟩)
     exact key_vq_1_3_7_8 V9 aR aX c8 c9 g8 g9 r0 r1 r2 r3 q ⟨bw2, kC2, kR2, kV2, kX2, pZ2, hQ9, laR, laX⟩
  case key =>
   rintro V9 aR aX c8 c9 g8 g9 r0 r1 r2 r3 r ⟨bw, kC, kR, kV, kX, pZ, hQ9, laR, laX⟩
   try dsimp only
   refine rd1_ 9 (fun K hK => ?br60035)
   case br60035 =>
    obtain ⟨us, hZ⟩ := pZ
    have hXR : aX ≠ aR := Blk.ne_ kX kR (by decide)
    have hRX : aR ≠ aX := Ne.symm hXR
    have nVX : w.heap.size ≠ aX := by omega
    have nCX : w.heap.size + 1 ≠ aX := by omega
    have nVR : w.heap.size ≠ aR := by omega
    have nCR : w.heap.size + 1 ≠ aR := by omega
    have kX9 := (kX.put 0 (.int .i64 V9.nx) #[.int .i64 V9.nx, .slice none 0 0] rfl).put 1 (.slice (some ⟨g8, 0, none⟩) V9.xs.length c8) #[.int .i64 V9.nx, .slice (some ⟨g8, 0, none⟩) V9.xs.length c8] rfl
    have kV9 := (kV.far (p := ⟨aX, 0, none⟩) nVX (.int .i64 V9.nx)).far (p := ⟨aX, 1, none⟩) nVX (.slice (some ⟨g8, 0, none⟩) V9.xs.length c8)
    have kC9 := (kC.far (p := ⟨aX, 0, none⟩) nCX (.int .i64 V9.nx)).far (p := ⟨aX, 1, none⟩) nCX (.slice (some ⟨g8, 0, none⟩) V9.xs.length c8)
    have kR9 := (kR.far (p := ⟨aX, 0, none⟩) hRX (.int .i64 V9.nx)).far (p := ⟨aX, 1, none⟩) hRX (.slice (some ⟨g8, 0, none⟩) V9.xs.length c8)
    have Z9 := (hZ.farV kX 0 (.int .i64 V9.nx)).farV (kX.put 0 (.int .i64 V9.nx) #[.int .i64 V9.nx, .slice none 0 0] rfl) 1 (.slice (some ⟨g8, 0, none⟩) V9.xs.length c8)
    have B9 := belG (bel0 w2) bw (show w2.heap.size <= g1 by omega)
    have B9' := belC (belC B9 aX 0 laX (.int .i64 V9.nx)) aX 1 laX (.slice (some ⟨g8, 0, none⟩) V9.xs.length c8)
    obtain ⟨w19, hw19⟩ : ∃ W, (r.setCell ⟨aX, 0, none⟩ (.int .i64 V9.nx)).setCell ⟨aX, 1, none⟩ (.slice (some ⟨g8, 0, none⟩) V9.xs.length c8) = W := ⟨_, rfl⟩
    rw [hw19] at kX9 kV9 kC9 kR9 B9' Z9
    obtain ⟨xf0, xf1⟩ := kX.f2
    obtain ⟨xx0, xx1⟩ := kX.g2
    have xl := kX.lt
    go_simp
    refine hK.out _ _ (by first | exact ⟨kV9.get 0 rfl, kV9.get 1 rfl, kC9.get 0 rfl, kC9.get 1 rfl, kC9.get 2 rfl, kC9.get 3 rfl, kC9.get 4 rfl, kC9.get 5 rfl⟩ | (rw [hw19]; exact ⟨kV9.get 0 rfl, kV9.get 1 rfl, kC9.get 0 rfl, kC9.get 1 rfl, kC9.get 2 rfl, kC9.get 3 rfl, kC9.get 4 rfl, kC9.get 5 rfl⟩)) (fun _ => ?_)
    clear hK K
    try simp only [Act.put, pT_, pZ_, pS_]
    try rw [hw19]
    clear hw19 xf0 xf1 xx0 xx1 xl kX kR kV kC B9 bw hZ
    refine rd1_ 10 (fun K hK => ?br60036)
    case br60036 =>
     have kR10 := ((((kR9.put 0 (.int .i64 r0) #[.int .i64 r0, .int .i64 0, .string ⟨#[]⟩, .string ⟨#[]⟩] rfl).put 1 (.int .i64 r1) #[.int .i64 r0, .int .i64 r1, .string ⟨#[]⟩, .string ⟨#[]⟩] rfl).put 2 (.string r2) #[.int .i64 r0, .int .i64 r1, .string r2, .string ⟨#[]⟩] rfl).put 3 (.string r3) #[.int .i64 r0, .int .i64 r1, .string r2, .string r3] rfl)
     have kX10 := ((((kX9.far (p := ⟨aR, 0, none⟩) hXR (.int .i64 r0)).far (p := ⟨aR, 1, none⟩) hXR (.int .i64 r1)).far (p := ⟨aR, 2, none⟩) hXR (.string r2)).far (p := ⟨aR, 3, none⟩) hXR (.string r3))
     have kV10 := ((((kV9.far (p := ⟨aR, 0, none⟩) nVR (.int .i64 r0)).far (p := ⟨aR, 1, none⟩) nVR (.int .i64 r1)).far (p := ⟨aR, 2, none⟩) nVR (.string r2)).far (p := ⟨aR, 3, none⟩) nVR (.string r3))
     have kC10 := ((((kC9.far (p := ⟨aR, 0, none⟩) nCR (.int .i64 r0)).far (p := ⟨aR, 1, none⟩) nCR (.int .i64 r1)).far (p := ⟨aR, 2, none⟩) nCR (.string r2)).far (p := ⟨aR, 3, none⟩) nCR (.string r3))
     have B10 := (belC (belC (belC (belC B9' aR 0 laR (.int .i64 r0)) aR 1 laR (.int .i64 r1)) aR 2 laR (.string r2)) aR 3 laR (.string r3))
     have Z10 := Z9.far4 kR9 (.int .i64 r0) (.int .i64 r1) (.string r2) (.string r3)
     obtain ⟨w20, hw20⟩ : ∃ W, ((((w19.setCell ⟨aR, 0, none⟩ (.int .i64 r0)).setCell ⟨aR, 1, none⟩ (.int .i64 r1)).setCell ⟨aR, 2, none⟩ (.string r2)).setCell ⟨aR, 3, none⟩ (.string r3)) = W := ⟨_, rfl⟩
     rw [hw20] at kX10 kV10 kC10 kR10 B10 Z10
     obtain ⟨xf0, xf1, xf2, xf3⟩ := kR9.f4
     obtain ⟨xx0, xx1, xx2, xx3⟩ := kR9.g4
     have xl := kR9.lt
     go_simp
     refine hK.out _ _ (by first | exact ⟨kV10.get 0 rfl, kV10.get 1 rfl, kC10.get 0 rfl, kC10.get 1 rfl, kC10.get 2 rfl, kC10.get 3 rfl, kC10.get 4 rfl, kC10.get 5 rfl⟩ | (rw [hw20]; exact ⟨kV10.get 0 rfl, kV10.get 1 rfl, kC10.get 0 rfl, kC10.get 1 rfl, kC10.get 2 rfl, kC10.get 3 rfl, kC10.get 4 rfl, kC10.get 5 rfl⟩)) (fun _ => ?_)
     clear hK K
     try simp only [Act.put, pT_, pZ_, pS_]
     try rw [hw20]
     clear hw20 xf0 xf1 xf2 xf3 xx0 xx1 xx2 xx3 xl
     refine wpAnyH_done (by kernel_rfl) ?_ _
     go_wp2_with fail
     go_meet
     exact ⟨_, _, V9, g8, c8, r0, r1, r2, r3, rfl, rfl, Lib.hid kX10, Lib.hid kR10, laX, laR, hQ9, Lib.hid ⟨us, Z10⟩, B10⟩
 case rest =>
  obtain ⟨g, h, V9, g8, c8, r0, r1, r2, r3, rfl, rfl, hG, hH, lg, lh, hQ9, hZ9, hb3⟩ := hcut
  have l2 := RR2.out.lt
  have nGX : g ≠ w.heap.size + 1 + 1 := by omega
  have nGR : g ≠ w.heap.size + 1 + 1 + 1 := by omega
  have nHX : h ≠ w.heap.size + 1 + 1 := by omega
  have nHR : h ≠ w.heap.size + 1 + 1 + 1 := by omega
  have nGX' := nGX.symm
  have nGR' := nGR.symm
  have nHX' := nHX.symm
  have nHR' := nHR.symm
  have B3 := belN B2 hb3
  obtain ⟨us9, hZ⟩ := hZ9.out
  clear v0 v1 k0 k1 k2 k3 k4 k5
  have X3 := XX2.out.below hb3 XX2.out.lt
  have R3 := RR2.out.below hb3 RR2.out.lt
  have p0 := hG.out.get (x := .int .i64 V9.nx) 0 rfl
  have p1 := hG.out.get (x := .slice (some ⟨g8, 0, none⟩) V9.xs.length c8) 1 rfl
  have h0 := hH.out.get (x := .int .i64 r0) 0 rfl
  have h1 := hH.out.get (x := .int .i64 r1) 1 rfl
  have h2 := hH.out.get (x := .string r2) 2 rfl
  have h3 := hH.out.get (x := .string r3) 3 rfl
  have xG := hG.out.lt
  have xH := hH.out.lt
  have hX9 := X3
  have hR9 := R3
  have x0 := hX9.get (x := .int .i64 0) 0 rfl
  have y0 := hX9.frozen 0
  have x1 := hX9.get (x := .slice none 0 0) 1 rfl
  have y1 := hX9.frozen 1
  have z0 := hR9.get (x := .int .i64 0) 0 rfl
  have g0 := hR9.frozen 0
  have z1 := hR9.get (x := .int .i64 0) 1 rfl
  have g1 := hR9.frozen 1
  have z2 := hR9.get (x := .string ⟨#[]⟩) 2 rfl
  have g2 := hR9.frozen 2
  have z3 := hR9.get (x := .string ⟨#[]⟩) 3 rfl
  have g3 := hR9.frozen 3
  have lX := hX9.lt
  have lR := hR9.lt
  clear hX9 hR9
  go_wp2_with fail
  go_region
  all_goals
   go_wp2
   refine bodyPost_ret (v := .tuple #[.agg #[.int .i64 V9.nx, .slice (some ⟨g8, 0, none⟩) V9.xs.length c8], .agg #[.int .i64 r0, .int .i64 r1, .string r2, .string r3]]) (by simp [results, Tryz.results80, go_sem, x0, x1, z0, z1, z2, z3]) rfl ⟨⟨V9, g8, c8, r0, r1, r2, r3, rfl, hQ9.out, us9, YR.more ?_ (show w.heap.size <= w2.heap.size by omega)⟩, ?_⟩
   ·refine YR.below ?_ (bel0 _).drew
    refine YR.farB ?_ (by omega) _ _
    refine YR.farB ?_ (by omega) _ _
    refine YR.farB ?_ (by omega) _ _
    refine YR.farB ?_ (by omega) _ _
    refine YR.farB ?_ (by omega) _ _
    refine YR.farB ?_ (by omega) _ _
    exact hZ
   ·refine Below.drew ?_
    refine belC ?_ _ _ (by omega) _
    refine belC ?_ _ _ (by omega) _
    refine belC ?_ _ _ (by omega) _
    refine belC ?_ _ _ (by omega) _
    refine belC ?_ _ _ (by omega) _
    refine belC ?_ _ _ (by omega) _
    exact B3

end Go.Proofs.YtjjniapamdleoaaGreatDoor
