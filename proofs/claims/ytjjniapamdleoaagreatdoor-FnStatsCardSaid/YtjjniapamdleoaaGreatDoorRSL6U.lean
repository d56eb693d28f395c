/- Volumes are drawn: where a call goes, what it is, and a volume that calls have made. -/
import Derived.Test.YtjjniapamdleoaaGreatDoorRSL6V
import Derived.Test.YtjjniapamdleoaaGreatDoorRSDraw
import Derived.Deep.CutBlock
namespace Go.Proofs.YtjjniapamdleoaaGreatDoor
open Go Go.RowKit
set_option maxHeartbeats 8000000
set_option maxRecDepth 100000

/-- While a volume is drawn: its box (block pv), the result's box, the cursor. -/
def VBox (w0 : World) (g : Nat) (A : Option Addr) (n cp : Nat) (bs : List UInt8) (pv : Nat) (K : Int) (wr : World) : Prop :=
 ∃ nx xs gy c us, Blk wr pv 26 #[.int .i64 nx, .slice (some ⟨gy, 0, none⟩) (xs : List InoD).length c] /\ YR wr (w0.heap.size + 1) gy c xs us /\ QV K ⟨nx, xs⟩ /\ Curs wr g A n cp bs /\ w0.grownBy wr (some g) /\ Blk wr w0.heap.size 26 #[.int .i64 0, .slice none 0 0]
theorem curs_set {w : World} {g : Nat} {A : Option Addr} {n cp : Nat} {bs : List UInt8} (h : Curs w g A n cp bs) (b j : Nat) (u : Value) (hb : g < b) : Curs (w.setCell ⟨b, j, none⟩ u) g A n cp bs := h.bel ((Below.refl (g + 1) w).setCell (p := ⟨b, j, none⟩) (by show g + 1 <= b; omega) u) (by omega)
theorem gb_set {a w : World} {g : Nat} (h : a.grownBy w (some g)) (b j : Nat) (u : Value) (hb : a.heap.size <= b) : a.grownBy (w.setCell ⟨b, j, none⟩ u) (some g) := gb_bel0 h ((Below.refl a.heap.size w).setCell (p := ⟨b, j, none⟩) hb u)
theorem mem4_ibibbiw {G P : (Int) -> (ByteArray) -> (Int) -> (ByteArray) -> (ByteArray) -> (Int) -> (World) -> Prop} {R : Prop} (use : (∀ (x0 : Int) (x1 : ByteArray) (x2 : Int) (x3 : ByteArray) (x4 : ByteArray) (x5 : Int) (x6 : World), P x0 x1 x2 x3 x4 x5 x6 -> G x0 x1 x2 x3 x4 x5 x6) -> R) (key : ∀ (x0 : Int) (x1 : ByteArray) (x2 : Int) (x3 : ByteArray) (x4 : ByteArray) (x5 : Int) (x6 : World), P x0 x1 x2 x3 x4 x5 x6 -> G x0 x1 x2 x3 x4 x5 x6) : R := use key
theorem mem4_oibibvbivw {G P : (VolD) -> (Int) -> (ByteArray) -> (Int) -> (ByteArray) -> (Value) -> (ByteArray) -> (Int) -> (Value) -> (World) -> Prop} {R : Prop} (use : (∀ (x0 : VolD) (x1 : Int) (x2 : ByteArray) (x3 : Int) (x4 : ByteArray) (x5 : Value) (x6 : ByteArray) (x7 : Int) (x8 : Value) (x9 : World), P x0 x1 x2 x3 x4 x5 x6 x7 x8 x9 -> G x0 x1 x2 x3 x4 x5 x6 x7 x8 x9) -> R) (key : ∀ (x0 : VolD) (x1 : Int) (x2 : ByteArray) (x3 : Int) (x4 : ByteArray) (x5 : Value) (x6 : ByteArray) (x7 : Int) (x8 : Value) (x9 : World), P x0 x1 x2 x3 x4 x5 x6 x7 x8 x9 -> G x0 x1 x2 x3 x4 x5 x6 x7 x8 x9) : R := use key
theorem l6Call_any (g : Nat) (A : Option Addr) (n cp : Nat) (bs : List UInt8) (hn : n <= 9223372036854775806) (lo : Nat) (hlo : g < lo) (v : Value) (V : VolD) (K : Int) (hq : QV K V) (w : World) (hY : YV w lo v V) (h : Curs w g A n cp bs) :
  Calls Tryz.prog 126 #[.pointer (some ⟨g, 0, none⟩), v] w fun e w' => ∃ kd a s tg nm dt, e = .returned (.agg #[.int .i64 kd, .int .i64 a, .string s, .int .i64 tg, .string nm, .string dt]) /\ Curs w' g A n cp bs /\ w.grownBy w' (some g) := by
 have Hq := Lib.hid hq
 have Hb := Lib.hid (fun m hm W hW => l1Below_any g A n cp bs hn m hm W hW)
 have Ho := Lib.hid (fun m hm W hW => l1Once_any g A n cp bs hn m hm W hW)
 have Hnm := Lib.hid (fun W hW => l4Name_any g A n cp bs hn W hW)
 have Ht := Lib.hid (fun W hW => l1Text_any g A n cp bs hn 8 (by omega) W hW)
 have Hw := Lib.hid (fun W hy hW => l6Where_any g A n cp bs hn lo hlo v V K hq W hy hW)
 obtain ⟨gy, c, us, rfl, hyr⟩ := hY
 obtain ⟨nx, xs⟩ := V
 simp only at Hw hyr ⊢
 have hgl := h.lt
 obtain ⟨w1, hW1⟩ : ∃ W, (w.alloc (.cells #[.int .i64 nx, .slice (some ⟨gy, 0, none⟩) xs.length c] 26)).alloc (.cells #[.int .i64 0, .int .i64 0, .string ⟨#[]⟩, .int .i64 0, .string ⟨#[]⟩, .string ⟨#[]⟩] 95) = W := ⟨_, rfl⟩
 have a1 : Below w.heap.size w w1 := by rw [<- hW1]; exact belA (belA (bel0 w) _) _
 have kV1 : Blk w1 w.heap.size 26 #[.int .i64 nx, .slice (some ⟨gy, 0, none⟩) xs.length c] := by rw [<- hW1]; exact (Blk.new' _ _ _ _ rfl).alloc _
 have kR1 : Blk w1 (w.heap.size + 1) 95 #[.int .i64 0, .int .i64 0, .string ⟨#[]⟩, .int .i64 0, .string ⟨#[]⟩, .string ⟨#[]⟩] := by rw [<- hW1]; exact Blk.new' _ _ _ _ (by simp)
 have s1 : w.heap.size + 2 <= w1.heap.size := by rw [<- hW1]; simp
 have C1 := h.below a1
 have Y1 := hyr.below a1
 have G1 : w.grownBy w1 (some g) := gb_below (grown_refl _ _) a1
 have hs1 : w1.heap.size = w.heap.size + 1 + 1 := by rw [<- hW1]; simp
 have hrl := reads_lit w1 #[.int .i64 1, .int .i64 1, .int .i64 1, .int .i64 2, .int .i64 2, .int .i64 3, .int .i64 4, .int .i64 5, .int .i64 6, .int .i64 6, .int .i64 6, .int .i64 7, .int .i64 7, .int .i64 8] 3 14 rfl
 rw [hs1] at hrl
 have HRL := Lib.hid hrl
 have HW1 := Lib.hid hW1
 clear hW1 hyr h hq a1 hs1 hrl
 have hlt1 := C1.lt
 go_enter Tryz.func126, Tryz.ntmps126
 go_wp2_with fail
 rw [HW1.out]
 clear HW1
 refine (l1PickInt_any g A n cp bs hn (some ⟨w.heap.size + 1 + 1, 0, none⟩) 14 14 [1, 1, 1, 2, 2, 3, 4, 5, 6, 6, 6, 7, 7, 8] (by omega) (by omega) _ (C1.alloc _) HRL.out (fun ad e => by injection e with e; rw [<- e]; simp only; omega)).mono ?_
 rintro e w2 ⟨kd, rfl, _, C2, g2⟩
 have g2' := gb_al g2
 have kV2 := blk_gV kV1 g2' (by omega)
 have kR2 := blk_gV kR1 g2' (by omega)
 have Y2 := Y1.grownC g2' hlo
 have G2 := G1.trans g2'
 have s2 := g2'.size
 clear g2 g2' kV1 kR1 C1 Y1 G1 hlt1
 obtain ⟨px, hpx⟩ : ∃ q, w2.heap.size = q := ⟨_, rfl⟩
 obtain ⟨w3, hw3⟩ : ∃ W, w2.alloc (.cells #[.int .i64 kd, .int .i64 0, .string ⟨#[]⟩, .int .i64 0, .string ⟨#[]⟩, .string ⟨#[]⟩] 95) = W := ⟨_, rfl⟩
 have b3 : Below w2.heap.size w2 w3 := by rw [<- hw3]; exact belA (bel0 w2) _
 have S3 : Hid (CS w g A n cp bs lo gy c nx xs us px #[.int .i64 kd, .int .i64 0, .string ⟨#[]⟩, .int .i64 0, .string ⟨#[]⟩, .string ⟨#[]⟩] w3) := Lib.hid ⟨kV2.below b3 kV2.lt, kR2.below b3 kR2.lt, by rw [<- hw3, <- hpx]; exact Blk.new' _ _ _ _ rfl, C2.below b3, Y2.below b3, gb_below G2 b3, by omega⟩
 have Hw3 := Lib.hid hw3
 have Hpx := Lib.hid hpx
 clear hw3 hpx b3 kV2 kR2 C2 Y2 G2 s2
 go_upto_region 2 with fail
 try rw [Hpx.out]
 rw [Hw3.out]
 clear Hw3 Hpx
 obtain ⟨v_0, v_1⟩ := S3.out.v.g2
 go_wp2_with fail
 refine (Hw.out _ ⟨gy, c, us, rfl, S3.out.y⟩ S3.out.cu).mono ?_
 rintro e w4 ⟨a, s, rfl, hs, C4, g4⟩
 have S4 := Lib.hid (S3.out.grown g4 C4)
 clear S3 g4 C4 v_0 v_1
 obtain ⟨x_0, x_1, x_2, x_3, x_4, x_5⟩ := S4.out.x.g6
 obtain ⟨xf0, xf1, xf2, xf3, xf4, xf5⟩ := S4.out.x.f6
 have xl := S4.out.x.lt
 go_upto_block 0 with fail
 clear x_0 xf0 x_1 xf1 x_2 xf2 x_3 xf3 x_4 xf4 x_5 xf5 xl
 have S5 : Hid (CS w g A n cp bs lo gy c nx xs us px #[.int .i64 kd, .int .i64 a, .string s, .int .i64 0, .string ⟨#[]⟩, .string ⟨#[]⟩] ((w4.setCell ⟨px, 1, none⟩ (.int .i64 a)).setCell ⟨px, 2, none⟩ (.string s))) := Lib.hid ((S4.out.set 1 (.int .i64 a) #[.int .i64 kd, .int .i64 a, .string ⟨#[]⟩, .int .i64 0, .string ⟨#[]⟩, .string ⟨#[]⟩] rfl).set 2 (.string s) #[.int .i64 kd, .int .i64 a, .string s, .int .i64 0, .string ⟨#[]⟩, .string ⟨#[]⟩] rfl)
 obtain ⟨w5, hw5⟩ : ∃ W, (w4.setCell ⟨px, 1, none⟩ (.int .i64 a)).setCell ⟨px, 2, none⟩ (.string s) = W := ⟨_, rfl⟩
 rw [hw5] at S5 ⊢
 clear hw5 S4
 go_cut [9] from 26 to 51 (fun _ wx => ∃ (kd a : Int) (s : ByteArray) (tg : Int) (nm dt : ByteArray), Hid (s.size <= 25 /\ nm.size <= 25 /\ dt.size <= 25) /\ Hid (CS w g A n cp bs lo gy c nx xs us px #[.int .i64 kd, .int .i64 a, .string s, .int .i64 tg, .string nm, .string dt] wx))
 case first =>
  by_cases k5 : kd = 5
  ·subst k5
   obtain ⟨v_0, v_1⟩ := S5.out.v.g2
   go_wp2_with fail
   refine (Hw.out _ ⟨gy, c, us, rfl, S5.out.y⟩ S5.out.cu).mono ?_
   rintro e w6 ⟨tg, nm, rfl, hnm, C6, g6⟩
   have S6 := Lib.hid (S5.out.grown g6 C6)
   clear S5 g6 C6 v_0 v_1
   obtain ⟨x_0, x_1, x_2, x_3, x_4, x_5⟩ := S6.out.x.g6
   obtain ⟨xf0, xf1, xf2, xf3, xf4, xf5⟩ := S6.out.x.f6
   have xl := S6.out.x.lt
   go_wp2_with fail
   clear x_0 xf0 x_1 xf1 x_2 xf2 x_3 xf3 x_4 xf4 x_5 xf5 xl
   have S7 := Lib.hid ((S6.out.set 3 (.int .i64 tg) #[.int .i64 5, .int .i64 a, .string s, .int .i64 tg, .string ⟨#[]⟩, .string ⟨#[]⟩] rfl).set 4 (.string nm) #[.int .i64 5, .int .i64 a, .string s, .int .i64 tg, .string nm, .string ⟨#[]⟩] rfl)
   obtain ⟨w7, hw7⟩ : ∃ W, (w6.setCell ⟨px, 3, none⟩ (.int .i64 tg)).setCell ⟨px, 4, none⟩ (.string nm) = W := ⟨_, rfl⟩
   rw [hw7] at S7 ⊢
   clear hw7 S6
   refine (Ho.out 4 (by omega) _ S7.out.cu).mono ?_
   rintro e w8 ⟨b8, rfl, C8, g8⟩
   have S8 := Lib.hid (S7.out.grown g8 C8)
   clear S7 g8 C8
   cases b8
   ·go_wp2_with fail
    go_meet
    exact ⟨5, a, s, tg, nm, ⟨#[]⟩, Lib.hid ⟨hs, hnm, by decide⟩, S8⟩
   ·skip
    obtain ⟨x_0, x_1, x_2, x_3, x_4, x_5⟩ := S8.out.x.g6
    obtain ⟨xf0, xf1, xf2, xf3, xf4, xf5⟩ := S8.out.x.f6
    have xl := S8.out.x.lt
    go_wp2_with fail
    clear x_0 xf0 x_1 xf1 x_2 xf2 x_3 xf3 x_4 xf4 x_5 xf5 xl
    have S9 := Lib.hid (S8.out.set 3 (.int .i64 a) #[.int .i64 5, .int .i64 a, .string s, .int .i64 a, .string nm, .string ⟨#[]⟩] rfl)
    obtain ⟨w9, hw9⟩ : ∃ W, w8.setCell ⟨px, 3, none⟩ (.int .i64 a) = W := ⟨_, rfl⟩
    rw [hw9] at S9 ⊢
    clear hw9 S8
    refine (Hnm.out _ S9.out.cu).mono ?_
    rintro e w10 ⟨nn, rfl, hnn, C10, g10⟩
    have S10 := Lib.hid (S9.out.grown g10 C10)
    clear S9 g10 C10
    obtain ⟨x_0, x_1, x_2, x_3, x_4, x_5⟩ := S10.out.x.g6
    obtain ⟨xf0, xf1, xf2, xf3, xf4, xf5⟩ := S10.out.x.f6
    have xl := S10.out.x.lt
    have S11 := Lib.hid (S10.out.set 4 (.string nn) #[.int .i64 5, .int .i64 a, .string s, .int .i64 a, .string nn, .string ⟨#[]⟩] rfl)
    go_wp2_with fail
    go_meet
    exact ⟨5, a, s, a, nn, ⟨#[]⟩, Lib.hid ⟨hs, hnn, by decide⟩, S11⟩
  have t5 : (kd == 5) = false := by simpa using k5
  clear k5
  by_cases k6 : kd = 6
  ·subst k6
   obtain ⟨v_0, v_1⟩ := S5.out.v.g2
   go_wp2_with fail
   refine (Hw.out _ ⟨gy, c, us, rfl, S5.out.y⟩ S5.out.cu).mono ?_
   rintro e w6 ⟨tg, nm, rfl, hnm, C6, g6⟩
   have S6 := Lib.hid (S5.out.grown g6 C6)
   clear S5 g6 C6 v_0 v_1
   obtain ⟨x_0, x_1, x_2, x_3, x_4, x_5⟩ := S6.out.x.g6
   obtain ⟨xf0, xf1, xf2, xf3, xf4, xf5⟩ := S6.out.x.f6
   have xl := S6.out.x.lt
   go_wp2_with fail
   clear x_0 xf0 x_1 xf1 x_2 xf2 x_3 xf3 x_4 xf4 x_5 xf5 xl
   have S7 := Lib.hid ((S6.out.set 3 (.int .i64 tg) #[.int .i64 6, .int .i64 a, .string s, .int .i64 tg, .string ⟨#[]⟩, .string ⟨#[]⟩] rfl).set 4 (.string nm) #[.int .i64 6, .int .i64 a, .string s, .int .i64 tg, .string nm, .string ⟨#[]⟩] rfl)
   obtain ⟨w7, hw7⟩ : ∃ W, (w6.setCell ⟨px, 3, none⟩ (.int .i64 tg)).setCell ⟨px, 4, none⟩ (.string nm) = W := ⟨_, rfl⟩
   rw [hw7] at S7 ⊢
   clear hw7 S6
   refine (Ho.out 4 (by omega) _ S7.out.cu).mono ?_
   rintro e w8 ⟨b8, rfl, C8, g8⟩
   have S8 := Lib.hid (S7.out.grown g8 C8)
   clear S7 g8 C8
   cases b8
   ·go_wp2_with fail
    go_meet
    exact ⟨6, a, s, tg, nm, ⟨#[]⟩, Lib.hid ⟨hs, hnm, by decide⟩, S8⟩
   ·skip
    obtain ⟨x_0, x_1, x_2, x_3, x_4, x_5⟩ := S8.out.x.g6
    obtain ⟨xf0, xf1, xf2, xf3, xf4, xf5⟩ := S8.out.x.f6
    have xl := S8.out.x.lt
    go_wp2_with fail
    clear x_0 xf0 x_1 xf1 x_2 xf2 x_3 xf3 x_4 xf4 x_5 xf5 xl
    have S9 := Lib.hid (S8.out.set 3 (.int .i64 a) #[.int .i64 6, .int .i64 a, .string s, .int .i64 a, .string nm, .string ⟨#[]⟩] rfl)
    obtain ⟨w9, hw9⟩ : ∃ W, w8.setCell ⟨px, 3, none⟩ (.int .i64 a) = W := ⟨_, rfl⟩
    rw [hw9] at S9 ⊢
    clear hw9 S8
    refine (Hnm.out _ S9.out.cu).mono ?_
    rintro e w10 ⟨nn, rfl, hnn, C10, g10⟩
    have S10 := Lib.hid (S9.out.grown g10 C10)
    clear S9 g10 C10
    obtain ⟨x_0, x_1, x_2, x_3, x_4, x_5⟩ := S10.out.x.g6
    obtain ⟨xf0, xf1, xf2, xf3, xf4, xf5⟩ := S10.out.x.f6
    have xl := S10.out.x.lt
    have S11 := Lib.hid (S10.out.set 4 (.string nn) #[.int .i64 6, .int .i64 a, .string s, .int .i64 a, .string nn, .string ⟨#[]⟩] rfl)
    go_wp2_with fail
    go_meet
    exact ⟨6, a, s, a, nn, ⟨#[]⟩, Lib.hid ⟨hs, hnn, by decide⟩, S11⟩
  have t6 : (kd == 6) = false := by simpa using k6
  clear k6
  by_cases k7 : kd = 7
  ·subst k7
   go_wp2_with fail
   refine (Ht.out _ S5.out.cu).mono ?_
   rintro e w6 ⟨dt, rfl, hdt, C6, g6⟩
   have S6 := Lib.hid (S5.out.grown g6 C6)
   clear S5 g6 C6
   obtain ⟨x_0, x_1, x_2, x_3, x_4, x_5⟩ := S6.out.x.g6
   obtain ⟨xf0, xf1, xf2, xf3, xf4, xf5⟩ := S6.out.x.f6
   have xl := S6.out.x.lt
   have S7 := Lib.hid (S6.out.set 5 (.string dt) #[.int .i64 7, .int .i64 a, .string s, .int .i64 0, .string ⟨#[]⟩, .string dt] rfl)
   go_wp2_with fail
   go_meet
   exact ⟨7, a, s, 0, ⟨#[]⟩, dt, Lib.hid ⟨hs, by decide, by omega⟩, S7⟩
  have t7 : (kd == 7) = false := by simpa using k7
  clear k7
  go_wp2_with fail
  go_meet
  exact ⟨kd, a, s, 0, ⟨#[]⟩, ⟨#[]⟩, Lib.hid ⟨hs, by decide, by decide⟩, S5⟩
 case rest =>
  clear S5 hs
  obtain ⟨kd, a, s, tg, nm, dt, Hsz, S6⟩ := hcut
  obtain ⟨w6, hw6⟩ : ∃ W, W = wc := ⟨_, rfl⟩
  subst hw6
  go_wp2_with fail
  refine (Ho.out 25 (by omega) _ S6.out.cu).mono ?_
  rintro e w7 ⟨b7, rfl, C7, g7⟩
  have S7 := Lib.hid (S6.out.grown g7 C7)
  clear S6 g7 C7
  cases b7
  ·skip
   obtain ⟨x_0, x_1, x_2, x_3, x_4, x_5⟩ := S7.out.x.g6
   obtain ⟨r_0, r_1, r_2, r_3, r_4, r_5⟩ := S7.out.r.g6
   obtain ⟨rf0, rf1, rf2, rf3, rf4, rf5⟩ := S7.out.r.f6
   have rl := S7.out.r.lt
   go_wp2
   refine foldBPL ?_
   intro wf hwf
   obtain ⟨hR, hC, hG⟩ : Blk wf (w.heap.size + 1) 95 #[.int .i64 kd, .int .i64 a, .string s, .int .i64 tg, .string nm, .string dt] /\ Curs wf g A n cp bs /\ w.grownBy wf (some g) := by rw [hwf]; exact S7.out.out
   clear hwf r_0 r_1 r_2 r_3 r_4 r_5
   obtain ⟨r_0, r_1, r_2, r_3, r_4, r_5⟩ := hR.g6
   refine bodyPost_ret (v := .agg #[.int .i64 kd, .int .i64 a, .string s, .int .i64 tg, .string nm, .string dt]) (by simp [results, Tryz.results126, go_sem, r_0, r_1, r_2, r_3, r_4, r_5]) rfl ⟨_, _, _, _, _, _, rfl, hC, hG⟩
  go_wp2_with fail
  refine (Hb.out 5 (by omega) _ S7.out.cu).mono ?_
  rintro e w8 ⟨x, rfl, _, hx, C8, g8⟩
  have S8 := Lib.hid (S7.out.grown g8 C8)
  have hx5 := hx (by omega)
  clear S7 g8 C8 hx
  have hlt8 := S8.out.cu.lt
  rcases (show x = 0 ∨ x = 1 ∨ x = 2 ∨ x = 3 ∨ x = 4 by omega) with rfl | rfl | rfl | rfl | rfl
  ·clear hx5
   have xl := S8.out.x.lt
   go_wp2_with fail
   refine (l1PickInt_any g A n cp bs hn (some ⟨w8.heap.size, 0, none⟩) 3 3 [0, 9, -1] (by omega) (by omega) _ (S8.out.cu.alloc _) (show Reads _ _ 1 _ _ _ from reads_lit w8 _ _ _ rfl) (fun ad e => by injection e with e; rw [<- e]; simp only; omega)).mono ?_
   rintro e w9 ⟨y, rfl, _, C9, g9⟩
   have S9 := Lib.hid (S8.out.grown (gb_al g9) C9)
   clear S8 g9 C9 xl
   obtain ⟨x_0, x_1, x_2, x_3, x_4, x_5⟩ := S9.out.x.g6
   obtain ⟨xf0, xf1, xf2, xf3, xf4, xf5⟩ := S9.out.x.f6
   have xl := S9.out.x.lt
   go_upto_region 27 with fail
   have SA := Lib.hid (S9.out.set 0 (.int .i64 y) #[.int .i64 y, .int .i64 a, .string s, .int .i64 tg, .string nm, .string dt] rfl)
   clear x_0 xf0 x_1 xf1 x_2 xf2 x_3 xf3 x_4 xf4 x_5 xf5 xl
   obtain ⟨wA, hwA⟩ : ∃ W, w9.setCell ⟨px, 0, none⟩ (.int .i64 y) = W := ⟨_, rfl⟩
   rw [hwA] at SA ⊢
   clear hwA S9
   obtain ⟨x_0, x_1, x_2, x_3, x_4, x_5⟩ := SA.out.x.g6
   obtain ⟨r_0, r_1, r_2, r_3, r_4, r_5⟩ := SA.out.r.g6
   obtain ⟨rf0, rf1, rf2, rf3, rf4, rf5⟩ := SA.out.r.f6
   have rl := SA.out.r.lt
   go_wp2
   refine foldBPL ?_
   intro wf hwf
   obtain ⟨hR, hC, hG⟩ : Blk wf (w.heap.size + 1) 95 #[.int .i64 y, .int .i64 a, .string s, .int .i64 tg, .string nm, .string dt] /\ Curs wf g A n cp bs /\ w.grownBy wf (some g) := by rw [hwf]; exact SA.out.out
   clear hwf r_0 r_1 r_2 r_3 r_4 r_5
   obtain ⟨r_0, r_1, r_2, r_3, r_4, r_5⟩ := hR.g6
   refine bodyPost_ret (v := .agg #[.int .i64 y, .int .i64 a, .string s, .int .i64 tg, .string nm, .string dt]) (by simp [results, Tryz.results126, go_sem, r_0, r_1, r_2, r_3, r_4, r_5]) rfl ⟨_, _, _, _, _, _, rfl, hC, hG⟩
  ·clear hx5
   have xl := S8.out.x.lt
   go_wp2_with fail
   refine (l1PickInt_any g A n cp bs hn (some ⟨w8.heap.size, 0, none⟩) 4 4 [-1, 0, 99, 100001] (by omega) (by omega) _ (S8.out.cu.alloc _) (show Reads _ _ 1 _ _ _ from reads_lit w8 _ _ _ rfl) (fun ad e => by injection e with e; rw [<- e]; simp only; omega)).mono ?_
   rintro e w9 ⟨y, rfl, _, C9, g9⟩
   have S9 := Lib.hid (S8.out.grown (gb_al g9) C9)
   clear S8 g9 C9 xl
   obtain ⟨x_0, x_1, x_2, x_3, x_4, x_5⟩ := S9.out.x.g6
   obtain ⟨xf0, xf1, xf2, xf3, xf4, xf5⟩ := S9.out.x.f6
   have xl := S9.out.x.lt
   go_upto_region 27 with fail
   have SA := Lib.hid (S9.out.set 1 (.int .i64 y) #[.int .i64 kd, .int .i64 y, .string s, .int .i64 tg, .string nm, .string dt] rfl)
   clear x_0 xf0 x_1 xf1 x_2 xf2 x_3 xf3 x_4 xf4 x_5 xf5 xl
   obtain ⟨wA, hwA⟩ : ∃ W, w9.setCell ⟨px, 1, none⟩ (.int .i64 y) = W := ⟨_, rfl⟩
   rw [hwA] at SA ⊢
   clear hwA S9
   obtain ⟨x_0, x_1, x_2, x_3, x_4, x_5⟩ := SA.out.x.g6
   obtain ⟨r_0, r_1, r_2, r_3, r_4, r_5⟩ := SA.out.r.g6
   obtain ⟨rf0, rf1, rf2, rf3, rf4, rf5⟩ := SA.out.r.f6
   have rl := SA.out.r.lt
   go_wp2
   refine foldBPL ?_
   intro wf hwf
   obtain ⟨hR, hC, hG⟩ : Blk wf (w.heap.size + 1) 95 #[.int .i64 kd, .int .i64 y, .string s, .int .i64 tg, .string nm, .string dt] /\ Curs wf g A n cp bs /\ w.grownBy wf (some g) := by rw [hwf]; exact SA.out.out
   clear hwf r_0 r_1 r_2 r_3 r_4 r_5
   obtain ⟨r_0, r_1, r_2, r_3, r_4, r_5⟩ := hR.g6
   refine bodyPost_ret (v := .agg #[.int .i64 kd, .int .i64 y, .string s, .int .i64 tg, .string nm, .string dt]) (by simp [results, Tryz.results126, go_sem, r_0, r_1, r_2, r_3, r_4, r_5]) rfl ⟨_, _, _, _, _, _, rfl, hC, hG⟩
  ·clear hx5
   have xl := S8.out.x.lt
   go_wp2_with fail
   refine (l1PickInt_any g A n cp bs hn (some ⟨w8.heap.size, 0, none⟩) 3 3 [-1, 1, 99] (by omega) (by omega) _ (S8.out.cu.alloc _) (show Reads _ _ 1 _ _ _ from reads_lit w8 _ _ _ rfl) (fun ad e => by injection e with e; rw [<- e]; simp only; omega)).mono ?_
   rintro e w9 ⟨y, rfl, _, C9, g9⟩
   have S9 := Lib.hid (S8.out.grown (gb_al g9) C9)
   clear S8 g9 C9 xl
   obtain ⟨x_0, x_1, x_2, x_3, x_4, x_5⟩ := S9.out.x.g6
   obtain ⟨xf0, xf1, xf2, xf3, xf4, xf5⟩ := S9.out.x.f6
   have xl := S9.out.x.lt
   go_upto_region 27 with fail
   have SA := Lib.hid (S9.out.set 3 (.int .i64 y) #[.int .i64 kd, .int .i64 a, .string s, .int .i64 y, .string nm, .string dt] rfl)
   clear x_0 xf0 x_1 xf1 x_2 xf2 x_3 xf3 x_4 xf4 x_5 xf5 xl
   obtain ⟨wA, hwA⟩ : ∃ W, w9.setCell ⟨px, 3, none⟩ (.int .i64 y) = W := ⟨_, rfl⟩
   rw [hwA] at SA ⊢
   clear hwA S9
   obtain ⟨x_0, x_1, x_2, x_3, x_4, x_5⟩ := SA.out.x.g6
   obtain ⟨r_0, r_1, r_2, r_3, r_4, r_5⟩ := SA.out.r.g6
   obtain ⟨rf0, rf1, rf2, rf3, rf4, rf5⟩ := SA.out.r.f6
   have rl := SA.out.r.lt
   go_wp2
   refine foldBPL ?_
   intro wf hwf
   obtain ⟨hR, hC, hG⟩ : Blk wf (w.heap.size + 1) 95 #[.int .i64 kd, .int .i64 a, .string s, .int .i64 y, .string nm, .string dt] /\ Curs wf g A n cp bs /\ w.grownBy wf (some g) := by rw [hwf]; exact SA.out.out
   clear hwf r_0 r_1 r_2 r_3 r_4 r_5
   obtain ⟨r_0, r_1, r_2, r_3, r_4, r_5⟩ := hR.g6
   refine bodyPost_ret (v := .agg #[.int .i64 kd, .int .i64 a, .string s, .int .i64 y, .string nm, .string dt]) (by simp [results, Tryz.results126, go_sem, r_0, r_1, r_2, r_3, r_4, r_5]) rfl ⟨_, _, _, _, _, _, rfl, hC, hG⟩
  ·clear hx5
   have u1 : ¬ 9223372036854775807 < nm.size + 1 := by have := Hsz.out; omega
   obtain ⟨x_0, x_1, x_2, x_3, x_4, x_5⟩ := S8.out.x.g6
   obtain ⟨xf0, xf1, xf2, xf3, xf4, xf5⟩ := S8.out.x.f6
   have xl := S8.out.x.lt
   go_upto_region 27 with fail
   have SA := Lib.hid (S8.out.set 4 (.string (nm ++ ⟨#[120]⟩)) #[.int .i64 kd, .int .i64 a, .string s, .int .i64 tg, .string (nm ++ ⟨#[120]⟩), .string dt] rfl)
   clear x_0 xf0 x_1 xf1 x_2 xf2 x_3 xf3 x_4 xf4 x_5 xf5 xl
   obtain ⟨wA, hwA⟩ : ∃ W, w8.setCell ⟨px, 4, none⟩ (.string (nm ++ ⟨#[120]⟩)) = W := ⟨_, rfl⟩
   rw [hwA] at SA ⊢
   clear hwA S8
   obtain ⟨x_0, x_1, x_2, x_3, x_4, x_5⟩ := SA.out.x.g6
   obtain ⟨r_0, r_1, r_2, r_3, r_4, r_5⟩ := SA.out.r.g6
   obtain ⟨rf0, rf1, rf2, rf3, rf4, rf5⟩ := SA.out.r.f6
   have rl := SA.out.r.lt
   go_wp2
   refine foldBPL ?_
   intro wf hwf
   obtain ⟨hR, hC, hG⟩ : Blk wf (w.heap.size + 1) 95 #[.int .i64 kd, .int .i64 a, .string s, .int .i64 tg, .string (nm ++ ⟨#[120]⟩), .string dt] /\ Curs wf g A n cp bs /\ w.grownBy wf (some g) := by rw [hwf]; exact SA.out.out
   clear hwf r_0 r_1 r_2 r_3 r_4 r_5
   obtain ⟨r_0, r_1, r_2, r_3, r_4, r_5⟩ := hR.g6
   refine bodyPost_ret (v := .agg #[.int .i64 kd, .int .i64 a, .string s, .int .i64 tg, .string (nm ++ ⟨#[120]⟩), .string dt]) (by simp [results, Tryz.results126, go_sem, r_0, r_1, r_2, r_3, r_4, r_5]) rfl ⟨_, _, _, _, _, _, rfl, hC, hG⟩
  ·clear hx5
   have u1 : ¬ 9223372036854775807 < dt.size + 1 := by have := Hsz.out; omega
   obtain ⟨x_0, x_1, x_2, x_3, x_4, x_5⟩ := S8.out.x.g6
   obtain ⟨xf0, xf1, xf2, xf3, xf4, xf5⟩ := S8.out.x.f6
   have xl := S8.out.x.lt
   go_upto_region 27 with fail
   have SA := Lib.hid (S8.out.set 5 (.string (dt ++ ⟨#[121]⟩)) #[.int .i64 kd, .int .i64 a, .string s, .int .i64 tg, .string nm, .string (dt ++ ⟨#[121]⟩)] rfl)
   clear x_0 xf0 x_1 xf1 x_2 xf2 x_3 xf3 x_4 xf4 x_5 xf5 xl
   obtain ⟨wA, hwA⟩ : ∃ W, w8.setCell ⟨px, 5, none⟩ (.string (dt ++ ⟨#[121]⟩)) = W := ⟨_, rfl⟩
   rw [hwA] at SA ⊢
   clear hwA S8
   obtain ⟨x_0, x_1, x_2, x_3, x_4, x_5⟩ := SA.out.x.g6
   obtain ⟨r_0, r_1, r_2, r_3, r_4, r_5⟩ := SA.out.r.g6
   obtain ⟨rf0, rf1, rf2, rf3, rf4, rf5⟩ := SA.out.r.f6
   have rl := SA.out.r.lt
   go_wp2
   refine foldBPL ?_
   intro wf hwf
   obtain ⟨hR, hC, hG⟩ : Blk wf (w.heap.size + 1) 95 #[.int .i64 kd, .int .i64 a, .string s, .int .i64 tg, .string nm, .string (dt ++ ⟨#[121]⟩)] /\ Curs wf g A n cp bs /\ w.grownBy wf (some g) := by rw [hwf]; exact SA.out.out
   clear hwf r_0 r_1 r_2 r_3 r_4 r_5
   obtain ⟨r_0, r_1, r_2, r_3, r_4, r_5⟩ := hR.g6
   refine bodyPost_ret (v := .agg #[.int .i64 kd, .int .i64 a, .string s, .int .i64 tg, .string nm, .string (dt ++ ⟨#[121]⟩)]) (by simp [results, Tryz.results126, go_sem, r_0, r_1, r_2, r_3, r_4, r_5]) rfl ⟨_, _, _, _, _, _, rfl, hC, hG⟩

theorem l6Vol_any (g : Nat) (A : Option Addr) (n cp : Nat) (bs : List UInt8) (hn : n <= 9223372036854775806) (most : Int) (hm : most <= 1000) (w : World) (h : Curs w g A n cp bs) :
  Calls Tryz.prog 85 #[.pointer (some ⟨g, 0, none⟩), .int .i64 most] w fun e w' => ∃ v V K, e = .returned v /\ K <= 100000 /\ QV K V /\ YV w' w.heap.size v V /\ Curs w' g A n cp bs /\ w.grownBy w' (some g) := by
 have Hb := Lib.hid (fun m hm W hW => l1Below_any g A n cp bs hn m hm W hW)
 have hgl := h.lt
 obtain ⟨w1, hW1⟩ : ∃ W, w.alloc (.cells #[.int .i64 0, .slice none 0 0] 26) = W := ⟨_, rfl⟩
 have a1 : Below w.heap.size w w1 := by rw [<- hW1]; exact belA (bel0 w) _
 have kR1 : Blk w1 w.heap.size 26 #[.int .i64 0, .slice none 0 0] := by rw [<- hW1]; exact Blk.new' _ _ _ _ rfl
 have hs1 : w1.heap.size = w.heap.size + 1 := by rw [<- hW1]; simp
 have C1 := h.below a1
 have G1 : w.grownBy w1 (some g) := gb_below (grown_refl _ _) a1
 have HW1 := Lib.hid hW1
 have HS1 := Lib.hid hs1
 have hgw1 : g < w1.heap.size := by omega
 clear hW1 h a1 hs1
 go_enter Tryz.func85, Tryz.ntmps85
 go_wp2_with fail
 rw [HW1.out]
 clear HW1
 refine (newVol_any w1).mono ?_
 rintro e w2 ⟨v, rfl, hY2, hb2⟩
 have hq2 := qv0 (show (1 : Int) <= 1 by omega)
 obtain ⟨V2, hV2⟩ : ∃ V, vol0 = V := ⟨_, rfl⟩
 rw [hV2] at hY2 hq2
 clear hV2
 obtain ⟨g2, c2, u2, rfl, hy2⟩ := hY2
 obtain ⟨nx2, x2⟩ := V2
 simp only at hy2 ⊢
 have kR2 := kR1.below hb2 kR1.lt
 have C2 := C1.below hb2
 have G2 := gb_below G1 hb2
 have sz2 := hb2.size
 have s2 : w.heap.size + 1 <= w2.heap.size := by have := HS1.out; omega
 clear kR1 C1 G1 hb2
 obtain ⟨pv, hpv⟩ : ∃ q, w2.heap.size = q := ⟨_, rfl⟩
 obtain ⟨w3, hw3⟩ : ∃ W, w2.alloc (.cells #[.int .i64 nx2, .slice (some ⟨g2, 0, none⟩) x2.length c2] 26) = W := ⟨_, rfl⟩
 have b3 : Below w2.heap.size w2 w3 := by rw [<- hw3]; exact belA (bel0 w2) _
 have kP3 : Blk w3 pv 26 #[.int .i64 nx2, .slice (some ⟨g2, 0, none⟩) x2.length c2] := by rw [<- hw3, <- hpv]; exact Blk.new' _ _ _ _ rfl
 have kR3 := kR2.below b3 kR2.lt
 have C3 := C2.below b3
 have G3 := gb_below G2 b3
 have y3 := hy2.below b3
 have hpv2 : w.heap.size + 1 <= pv := by omega
 have Hw3 := Lib.hid hw3
 have Hpv := Lib.hid hpv
 clear hw3 hpv b3 kR2 C2 G2 hy2
 go_upto_region 2 with fail
 try rw [Hpv.out]
 rw [Hw3.out]
 clear Hw3 Hpv
 go_wp2_with fail
 refine (Hb.out most (by omega) w3 C3).mono ?_
 rintro e w4 ⟨x, rfl, hx0, hx1, C4, g4⟩
 have hk : 0 <= x /\ x <= 1000 := by
  rcases Int.lt_or_le 0 most with h | h
  ·have := hx1 h; omega
  ·have := hx0 h; omega
 obtain ⟨k0, rfl⟩ : ∃ j : Nat, x = (j : Int) := ⟨x.toNat, by omega⟩
 have HB4 : Hid (VBox w g A n cp bs pv (1 + ((k0 - k0 : Nat) : Int)) w4) := Lib.hid ⟨nx2, x2, g2, c2, u2, blk_gV kP3 g4 (by omega), (y3.grownC g4 (by omega)).more (by have := HS1.out; omega), by rw [Nat.sub_self]; exact hq2.mono (by omega), C4, G3.trans g4, blk_gV kR3 g4 (by omega)⟩
 clear hx0 hx1 g4 kR3 C3 C4 G3 y3 hq2 kP3 sz2 s2 HS1
 go_wp2
 go_loopw [6] (fun i wr => ∃ k : Nat, i = .int .i64 k /\ k <= k0 /\ Hid (VBox w g A n cp bs pv (1 + ((k0 - k : Nat) : Int)) wr)) (fun i _ => (intOf i).toNat)
 case atStart => exact ⟨k0, rfl, Nat.le_refl _, HB4⟩
 case round =>
  obtain ⟨k, rfl, hkk, HB⟩ := hrel
  obtain ⟨nx, xs, gy, c, us, kP, y, hq, cu, gr, kR⟩ := HB.out
  clear HB HB4
  by_cases h0 : k = 0
  rotate_left
  ·skip
   have hk0 : (k : Int) > 0 := by omega
   have hk0b : (0 : Int) < (k : Int) := by omega
   have w4' : IntKind.i64.wrap ((k : Int) - 1) = ((k - 1 : Nat) : Int) := by rw [IntKind.wrap_i64]; omega
   have h1K : 1 <= 1 + ((k0 - k : Nat) : Int) := by omega
   have hKl : 1 + ((k0 - k : Nat) : Int) <= 1000000 := by omega
   have hKn : 1 + ((k0 - k : Nat) : Int) + 1 = 1 + ((k0 - (k - 1) : Nat) : Int) := by omega
   obtain ⟨K, hK⟩ : ∃ K, 1 + ((k0 - k : Nat) : Int) = K := ⟨_, rfl⟩
   rw [hK] at hq h1K hKl hKn
   have HKn := Lib.hid hKn
   have Hq := Lib.hid hq
   have hgy := y.hi
   clear hK hKn hq
   go_upto_region 5 with fail
   refine wp_region_held_drew (S := fun w' => True) (by kernel_rfl) (by exact trivial) (fun hHeld => ?_)
   clear hHeld
   refine foldH ?_
   intro r hr0
   have bw : wr.grownBy r (some g) := by rw [hr0]; exact gb_below (grown_refl _ _) (bel0 wr).drew
   have kP : Blk r pv 26 #[.int .i64 nx, .slice (some ⟨gy, 0, none⟩) xs.length c] := by rw [hr0]; exact kP.drew
   have kR : Blk r w.heap.size 26 #[.int .i64 0, .slice none 0 0] := by rw [hr0]; exact kR.drew
   have pC : Curs r g A n cp bs := by rw [hr0]; exact (cu.below (bel0 wr).drew)
   have pY : YR r (w.heap.size + 1) gy c xs us := by rw [hr0]; exact (y.below (bel0 wr).drew)
   clear hr0
   apply mem4_oibibvbivw (P := fun V2 a dt kd nm r2 s tg v2 q => wr.grownBy q (some g) /\ Blk q pv 26 #[.int .i64 nx, .slice (some ⟨gy, 0, none⟩) xs.length c] /\ Blk q w.heap.size 26 #[.int .i64 0, .slice none 0 0] /\ Curs q g A n cp bs /\ QV (K + 1) V2 /\ YV q (w.heap.size + 1) v2 V2)
   case use =>
    intro key_vl_0_2_3_4
    apply mem4_ibibbiw (P := fun a dt kd nm s tg q => wr.grownBy q (some g) /\ Blk q pv 26 #[.int .i64 nx, .slice (some ⟨gy, 0, none⟩) xs.length c] /\ Blk q w.heap.size 26 #[.int .i64 0, .slice none 0 0] /\ Curs q g A n cp bs /\ YR q (w.heap.size + 1) gy c xs us)
    case use =>
     intro key_vl_0_2_3
     apply mem4_ibibbiw (P := fun a dt kd nm s tg q => wr.grownBy q (some g) /\ Blk q pv 26 #[.int .i64 nx, .slice (some ⟨gy, 0, none⟩) xs.length c] /\ Blk q w.heap.size 26 #[.int .i64 0, .slice none 0 0] /\ Curs q g A n cp bs /\ YR q (w.heap.size + 1) gy c xs us)
     case use =>
      intro key_vl_2_3
      apply mem4_w (P := fun  q => wr.grownBy q (some g) /\ Blk q pv 26 #[.int .i64 nx, .slice (some ⟨gy, 0, none⟩) xs.length c] /\ Blk q w.heap.size 26 #[.int .i64 0, .slice none 0 0] /\ Curs q g A n cp bs /\ YR q (w.heap.size + 1) gy c xs us)
      case use =>
       intro key_vl_0_2
       apply mem4_w (P := fun  q => wr.grownBy q (some g) /\ Blk q pv 26 #[.int .i64 nx, .slice (some ⟨gy, 0, none⟩) xs.length c] /\ Blk q w.heap.size 26 #[.int .i64 0, .slice none 0 0] /\ Curs q g A n cp bs /\ YR q (w.heap.size + 1) gy c xs us)
       case use =>
        intro key_vl_2
        apply mem4_w (P := fun  q => wr.grownBy q (some g) /\ Blk q pv 26 #[.int .i64 nx, .slice (some ⟨gy, 0, none⟩) xs.length c] /\ Blk q w.heap.size 26 #[.int .i64 0, .slice none 0 0] /\ Curs q g A n cp bs /\ YR q (w.heap.size + 1) gy c xs us)
        case use =>
         intro key_vl_0
         refine tkW_ 1 ?_ (hS := trivial)
         refine wpAnyH_ready (rs := [0, 2]) (by kernel_rfl) (by simp) ?_
         refine AllReadyH.cons (o := ?oi20002) ?hi20002 (fun K_ hK => ?br20002) (AllReadyH.cons (o := ?oi20003) ?hi20003 (fun K_ hK => ?br20003) AllReadyH.nil)
         case hi20002 => (conv => lhs; simp only [List.getElem?_toArray, List.getElem?_cons_zero]); try exact rfl
         case hi20003 => (conv => lhs; simp only [gT_, gZ_, gS_]); try exact rfl
         case br20002 =>
          obtain ⟨x_0, x_1⟩ := kP.g2
          go_simp
          refine hK.out _ _ (by exact trivial) (fun _ => ?_)
          clear hK K_
          try simp only [Act.put, pT_, pZ_, pS_]
          exact key_vl_0  r ⟨bw, kP, kR, pC, pY⟩
         case br20003 =>
          obtain ⟨x_0, x_1⟩ := kP.g2
          go_simp
          refine hK.out _ _ (by exact trivial) (fun _ => ?_)
          clear hK K_
          try simp only [Act.put, pT_, pZ_, pS_]
          exact key_vl_2  r ⟨bw, kP, kR, pC, pY⟩
        case key =>
         rintro  r ⟨bw, kP, kR, pC, pY⟩
         try dsimp only
         refine rd1_ 2 (fun K_ hK => ?br20004)
         case br20004 =>
          obtain ⟨x_0, x_1⟩ := kP.g2
          go_simp
          refine hK.out _ _ (by exact trivial) (fun _ => ?_)
          clear hK K_
          try simp only [Act.put, pT_, pZ_, pS_]
          exact key_vl_0_2  r ⟨bw, kP, kR, pC, pY⟩
       case key =>
        rintro  r ⟨bw, kP, kR, pC, pY⟩
        try dsimp only
        refine wpAnyH_ready (rs := [0, 3]) (by kernel_rfl) (by simp) ?_
        refine AllReadyH.cons (o := ?oi20005) ?hi20005 (fun K_ hK => ?br20005) (AllReadyH.cons (o := ?oi20006) ?hi20006 (fun K_ hK => ?br20006) AllReadyH.nil)
        case hi20005 => (conv => lhs; simp only [List.getElem?_toArray, List.getElem?_cons_zero]); try exact rfl
        case hi20006 => (conv => lhs; simp only [gT_, gZ_, gS_]); try exact rfl
        case br20005 =>
         obtain ⟨x_0, x_1⟩ := kP.g2
         go_simp
         refine hK.out _ _ (by exact trivial) (fun _ => ?_)
         clear hK K_
         try simp only [Act.put, pT_, pZ_, pS_]
         exact key_vl_0_2  r ⟨bw, kP, kR, pC, pY⟩
        case br20006 =>
         go_simp
         go_at_call 126
         refine (l6Call_any g A n cp bs hn (w.heap.size + 1) (by omega) _ ⟨nx, xs⟩ K Hq.out _ ⟨gy, c, us, rfl, pY⟩ pC).mono ?_
         rintro e q ⟨kd, a, s, tg, nm, dt, rfl, hC, hg⟩
         have bw2 := bw.trans hg
         have kP2 := blk_gV kP hg (by omega)
         have kR2 := blk_gV kR hg (by omega)
         have pY2 : YR q (w.heap.size + 1) gy c xs us := (YR.grownC pY hg (by omega))
         have pC2 := hC
         refine hK.out _ _ (by exact trivial) (fun _ => ?_)
         clear hK K_
         try simp only [Act.put, pT_, pZ_, pS_]
         exact key_vl_2_3 a dt kd nm s tg q ⟨bw2, kP2, kR2, pC2, pY2⟩
      case key =>
       rintro  r ⟨bw, kP, kR, pC, pY⟩
       try dsimp only
       refine rd1_ 3 (fun K_ hK => ?br20007)
       case br20007 =>
        go_simp
        go_at_call 126
        refine (l6Call_any g A n cp bs hn (w.heap.size + 1) (by omega) _ ⟨nx, xs⟩ K Hq.out _ ⟨gy, c, us, rfl, pY⟩ pC).mono ?_
        rintro e q ⟨kd, a, s, tg, nm, dt, rfl, hC, hg⟩
        have bw2 := bw.trans hg
        have kP2 := blk_gV kP hg (by omega)
        have kR2 := blk_gV kR hg (by omega)
        have pY2 : YR q (w.heap.size + 1) gy c xs us := (YR.grownC pY hg (by omega))
        have pC2 := hC
        refine hK.out _ _ (by exact trivial) (fun _ => ?_)
        clear hK K_
        try simp only [Act.put, pT_, pZ_, pS_]
        exact key_vl_0_2_3 a dt kd nm s tg q ⟨bw2, kP2, kR2, pC2, pY2⟩
     case key =>
      rintro a dt kd nm s tg r ⟨bw, kP, kR, pC, pY⟩
      try dsimp only
      refine wpAnyH_ready (rs := [0]) (by kernel_rfl) (by simp) ?_
      refine AllReadyH.cons (o := ?oi20008) ?hi20008 (fun K_ hK => ?br20008) AllReadyH.nil
      case hi20008 => (conv => lhs; simp only [List.getElem?_toArray, List.getElem?_cons_zero]); try exact rfl
      case br20008 =>
       obtain ⟨x_0, x_1⟩ := kP.g2
       go_simp
       refine hK.out _ _ (by exact trivial) (fun _ => ?_)
       clear hK K_
       try simp only [Act.put, pT_, pZ_, pS_]
       exact key_vl_0_2_3 a dt kd nm s tg r ⟨bw, kP, kR, pC, pY⟩
    case key =>
     rintro a dt kd nm s tg r ⟨bw, kP, kR, pC, pY⟩
     try dsimp only
     refine rd1_ 4 (fun K_ hK => ?br20009)
     case br20009 =>
      go_simp
      go_at_call 119
      refine (l6Do_any _ ⟨nx, xs⟩ K Hq.out h1K hKl kd a s tg nm dt _ (pY.isC nx)).mono ?_
      rintro e q ⟨hcp, hb⟩
      have bw2 := gb_below bw hb
      have kP2 := kP.below hb kP.lt
      have kR2 := kR.below hb kR.lt
      have pC2 : Curs q g A n cp bs := (pC.below hb)
      obtain ⟨v2, V2, r2, rfl, pQ2, pV2⟩ := hcp.yv (lo := w.heap.size + 1) ⟨gy, c, us, rfl, pY.below hb⟩ (by have := kP.lt; omega)
      refine hK.out _ _ (by exact trivial) (fun _ => ?_)
      clear hK K_
      try simp only [Act.put, pT_, pZ_, pS_]
      refine tkW_ 5 ?_ (hS := trivial)
      refine tkW_ 6 ?_ (hS := trivial)
      refine tkW_ 7 ?_ (hS := trivial)
      exact key_vl_0_2_3_4 V2 a dt kd nm r2 s tg v2 q ⟨bw2, kP2, kR2, pC2, pQ2, pV2⟩
   case key =>
    rintro V2 a dt kd nm r2 s tg v2 r ⟨bw, kP, kR, pC, pQ, pV⟩
    try dsimp only
    refine rd1_ 8 (fun K_ hK => ?br20013)
    case br20013 =>
     obtain ⟨g', c', us', rfl, y'⟩ := pV
     obtain ⟨nx', xs'⟩ := V2
     simp only at pQ y'
     obtain ⟨x_0, x_1⟩ := kP.g2
     obtain ⟨xf0, xf1⟩ := kP.f2
     have xl := kP.lt
     have hgr := bw.size
     have kP9 := (kP.put 0 (.int .i64 nx') #[.int .i64 nx', .slice (some ⟨gy, 0, none⟩) xs.length c] rfl).put 1 (.slice (some ⟨g', 0, none⟩) xs'.length c') #[.int .i64 nx', .slice (some ⟨g', 0, none⟩) xs'.length c'] rfl
     have kR9 := (kR.far (p := ⟨pv, 0, none⟩) (show w.heap.size ≠ pv by omega) (.int .i64 nx')).far (p := ⟨pv, 1, none⟩) (show w.heap.size ≠ pv by omega) (.slice (some ⟨g', 0, none⟩) xs'.length c')
     have y9 := (y'.farV kP 0 (.int .i64 nx')).farV (kP.put 0 (.int .i64 nx') #[.int .i64 nx', .slice (some ⟨gy, 0, none⟩) xs.length c] rfl) 1 (.slice (some ⟨g', 0, none⟩) xs'.length c')
     have C9 := curs_set (curs_set pC pv 0 (.int .i64 nx') (by omega)) pv 1 (.slice (some ⟨g', 0, none⟩) xs'.length c') (by omega)
     have G9 := gb_set (gb_set (gr.trans bw) pv 0 (.int .i64 nx') (by omega)) pv 1 (.slice (some ⟨g', 0, none⟩) xs'.length c') (by omega)
     obtain ⟨w9, hw9⟩ : ∃ W, (r.setCell ⟨pv, 0, none⟩ (.int .i64 nx')).setCell ⟨pv, 1, none⟩ (.slice (some ⟨g', 0, none⟩) xs'.length c') = W := ⟨_, rfl⟩
     rw [hw9] at kP9 kR9 y9 C9 G9
     go_simp
     refine hK.out _ _ (by exact trivial) (fun _ => ?_)
     clear hK K_
     try simp only [Act.put, pT_, pZ_, pS_]
     try rw [hw9]
     refine wpAnyH_done (by kernel_rfl) ?_ _
     clear hw9 x_0 x_1 xf0 xf1 xl kP kR y' pC bw y cu gr
     have HBn : Hid (VBox w g A n cp bs pv (1 + ((k0 - (k - 1) : Nat) : Int)) w9) := Lib.hid ⟨nx', xs', g', c', us', kP9, y9, by rw [<- HKn.out]; exact pQ, C9, G9, kR9⟩
     clear kP9 kR9 y9 C9 G9 pQ
     go_wp2_with fail
     first
      | exact ⟨⟨k - 1, by go_num, by omega, HBn⟩, by simp [intOf]; omega⟩
      | (go_roundw; case rel => exact ⟨k - 1, by go_num, by omega, HBn⟩; case measure => (simp [intOf]; omega))
  subst h0
  have hkx : k0 <= 1000 := by omega
  have hk0 : ¬ ((0 : Int) < ((0 : Nat) : Int)) := by decide
  have Hq := Lib.hid hq
  have hgy := y.hi
  have hzx := hq.len
  have hz0 := hq.ne
  have hsm := hq.sm
  clear hq
  obtain ⟨p_0, p_1⟩ := kP.g2
  go_wp2_with fail
  refine (l6Copy_own _ ⟨nx, xs⟩ (show 1 <= xs.length from hz0) (show xs.length <= 100000 by have h1 : xs.length <= 16 := hzx; omega) (fun x hx => by have := (hsm.2 x hx).1; omega) wr (y.isC nx).is).mono ?_
  rintro e w5 ⟨g5, c5, u5, rfl, y5, _, hb5⟩
  have kR5 := kR.below hb5 kR.lt
  have C5 := cu.below hb5
  have G5 := gb_below gr hb5
  have hz5 := kR.lt
  clear p_0 p_1 kR kP cu gr
  obtain ⟨x_0, x_1⟩ := kR5.g2
  obtain ⟨xf0, xf1⟩ := kR5.f2
  have xl := kR5.lt
  go_wp2
  refine foldBPL ?_
  intro wf hwf
  have kf : Blk wf w.heap.size 26 #[.int .i64 nx, .slice (some ⟨g5, 0, none⟩) xs.length c5] := by rw [hwf]; exact (kR5.put 0 (.int .i64 nx) _ rfl).put 1 (.slice (some ⟨g5, 0, none⟩) xs.length c5) _ rfl
  have yf : YR wf wr.heap.size g5 c5 xs u5 := by rw [hwf]; exact (y5.farV kR5 0 _).farV (kR5.put 0 (.int .i64 nx) #[.int .i64 nx, .slice none 0 0] rfl) 1 _
  have Cf : Curs wf g A n cp bs := by rw [hwf]; exact curs_set (curs_set C5 w.heap.size 0 _ (by omega)) w.heap.size 1 _ (by omega)
  have Gf : w.grownBy wf (some g) := by rw [hwf]; exact gb_set (gb_set G5 w.heap.size 0 _ (Nat.le_refl _)) w.heap.size 1 _ (Nat.le_refl _)
  clear hwf x_0 x_1 xf0 xf1 xl
  obtain ⟨x_0, x_1⟩ := kf.g2
  refine bodyPost_ret (v := .agg #[.int .i64 nx, .slice (some ⟨g5, 0, none⟩) xs.length c5]) (by simp [results, Tryz.results85, go_sem, x_0, x_1]) rfl ⟨_, ⟨nx, xs⟩, _, rfl, by omega, Hq.out, ⟨g5, c5, u5, rfl, yf.more (by omega)⟩, Cf, Gf⟩

end Go.Proofs.YtjjniapamdleoaaGreatDoor
