/- The law of FilWrite: the walk. -/
import Derived.Test.YtajgenjfhcapjaaFwLawD
import Derived.Test.YtajgenjfhcapjaaFwLawP
import Derived.Deep.Cut
import Derived.Deep.CutRange
import Derived.Deep.RegionHeld3
namespace Go.Proofs.Ytajgenjfhcapjaa
open Go Go.RowKit

theorem S4 {w : World} {a b : Nat} {t u : TypeId} {c0 c1 d0 d1 : Value} (h : Blk w a t #[c0, c1]) (k : Blk w b u #[d0, d1]) : w.cell? ⟨a, 0, none⟩ = some c0 ∧ w.cell? ⟨a, 1, none⟩ = some c1 ∧ w.cell? ⟨b, 0, none⟩ = some d0 ∧ w.cell? ⟨b, 1, none⟩ = some d1 := ⟨h.get 0 rfl, h.get 1 rfl, k.get 0 rfl, k.get 1 rfl⟩
theorem memo_ananw {G P : (Option Addr) → (Nat) → (Option Addr) → (Nat) → (World) → Prop} {R : Prop} (use : (∀ (x0 : Option Addr) (x1 : Nat) (x2 : Option Addr) (x3 : Nat) (x4 : World), P x0 x1 x2 x3 x4 → G x0 x1 x2 x3 x4) → R) (key : ∀ (x0 : Option Addr) (x1 : Nat) (x2 : Option Addr) (x3 : Nat) (x4 : World), P x0 x1 x2 x3 x4 → G x0 x1 x2 x3 x4) : R := use key
theorem memo_nw {G P : (Nat) → (World) → Prop} {R : Prop} (use : (∀ (x0 : Nat) (x1 : World), P x0 x1 → G x0 x1) → R) (key : ∀ (x0 : Nat) (x1 : World), P x0 x1 → G x0 x1) : R := use key
theorem memo_anananw {G P : (Option Addr) → (Nat) → (Option Addr) → (Nat) → (Option Addr) → (Nat) → (World) → Prop} {R : Prop} (use : (∀ (x0 : Option Addr) (x1 : Nat) (x2 : Option Addr) (x3 : Nat) (x4 : Option Addr) (x5 : Nat) (x6 : World), P x0 x1 x2 x3 x4 x5 x6 → G x0 x1 x2 x3 x4 x5 x6) → R) (key : ∀ (x0 : Option Addr) (x1 : Nat) (x2 : Option Addr) (x3 : Nat) (x4 : Option Addr) (x5 : Nat) (x6 : World), P x0 x1 x2 x3 x4 x5 x6 → G x0 x1 x2 x3 x4 x5 x6) : R := use key
theorem memo_anannw {G P : (Option Addr) → (Nat) → (Option Addr) → (Nat) → (Nat) → (World) → Prop} {R : Prop} (use : (∀ (x0 : Option Addr) (x1 : Nat) (x2 : Option Addr) (x3 : Nat) (x4 : Nat) (x5 : World), P x0 x1 x2 x3 x4 x5 → G x0 x1 x2 x3 x4 x5) → R) (key : ∀ (x0 : Option Addr) (x1 : Nat) (x2 : Option Addr) (x3 : Nat) (x4 : Nat) (x5 : World), P x0 x1 x2 x3 x4 x5 → G x0 x1 x2 x3 x4 x5) : R := use key
theorem memo_nnw {G P : (Nat) → (Nat) → (World) → Prop} {R : Prop} (use : (∀ (x0 : Nat) (x1 : Nat) (x2 : World), P x0 x1 x2 → G x0 x1 x2) → R) (key : ∀ (x0 : Nat) (x1 : Nat) (x2 : World), P x0 x1 x2 → G x0 x1 x2) : R := use key
theorem memo_anananananannw {G P : (Option Addr) → (Nat) → (Option Addr) → (Nat) → (Option Addr) → (Nat) → (Option Addr) → (Nat) → (Option Addr) → (Nat) → (Option Addr) → (Nat) → (Nat) → (World) → Prop} {R : Prop} (use : (∀ (x0 : Option Addr) (x1 : Nat) (x2 : Option Addr) (x3 : Nat) (x4 : Option Addr) (x5 : Nat) (x6 : Option Addr) (x7 : Nat) (x8 : Option Addr) (x9 : Nat) (x10 : Option Addr) (x11 : Nat) (x12 : Nat) (x13 : World), P x0 x1 x2 x3 x4 x5 x6 x7 x8 x9 x10 x11 x12 x13 → G x0 x1 x2 x3 x4 x5 x6 x7 x8 x9 x10 x11 x12 x13) → R) (key : ∀ (x0 : Option Addr) (x1 : Nat) (x2 : Option Addr) (x3 : Nat) (x4 : Option Addr) (x5 : Nat) (x6 : Option Addr) (x7 : Nat) (x8 : Option Addr) (x9 : Nat) (x10 : Option Addr) (x11 : Nat) (x12 : Nat) (x13 : World), P x0 x1 x2 x3 x4 x5 x6 x7 x8 x9 x10 x11 x12 x13 → G x0 x1 x2 x3 x4 x5 x6 x7 x8 x9 x10 x11 x12 x13) : R := use key
theorem memo_ananannw {G P : (Option Addr) → (Nat) → (Option Addr) → (Nat) → (Option Addr) → (Nat) → (Nat) → (World) → Prop} {R : Prop} (use : (∀ (x0 : Option Addr) (x1 : Nat) (x2 : Option Addr) (x3 : Nat) (x4 : Option Addr) (x5 : Nat) (x6 : Nat) (x7 : World), P x0 x1 x2 x3 x4 x5 x6 x7 → G x0 x1 x2 x3 x4 x5 x6 x7) → R) (key : ∀ (x0 : Option Addr) (x1 : Nat) (x2 : Option Addr) (x3 : Nat) (x4 : Option Addr) (x5 : Nat) (x6 : Nat) (x7 : World), P x0 x1 x2 x3 x4 x5 x6 x7 → G x0 x1 x2 x3 x4 x5 x6 x7) : R := use key
theorem memo_anannnw {G P : (Option Addr) → (Nat) → (Option Addr) → (Nat) → (Nat) → (Nat) → (World) → Prop} {R : Prop} (use : (∀ (x0 : Option Addr) (x1 : Nat) (x2 : Option Addr) (x3 : Nat) (x4 : Nat) (x5 : Nat) (x6 : World), P x0 x1 x2 x3 x4 x5 x6 → G x0 x1 x2 x3 x4 x5 x6) → R) (key : ∀ (x0 : Option Addr) (x1 : Nat) (x2 : Option Addr) (x3 : Nat) (x4 : Nat) (x5 : Nat) (x6 : World), P x0 x1 x2 x3 x4 x5 x6 → G x0 x1 x2 x3 x4 x5 x6) : R := use key
theorem memo_anananananannnw {G P : (Option Addr) → (Nat) → (Option Addr) → (Nat) → (Option Addr) → (Nat) → (Option Addr) → (Nat) → (Option Addr) → (Nat) → (Option Addr) → (Nat) → (Nat) → (Nat) → (World) → Prop} {R : Prop} (use : (∀ (x0 : Option Addr) (x1 : Nat) (x2 : Option Addr) (x3 : Nat) (x4 : Option Addr) (x5 : Nat) (x6 : Option Addr) (x7 : Nat) (x8 : Option Addr) (x9 : Nat) (x10 : Option Addr) (x11 : Nat) (x12 : Nat) (x13 : Nat) (x14 : World), P x0 x1 x2 x3 x4 x5 x6 x7 x8 x9 x10 x11 x12 x13 x14 → G x0 x1 x2 x3 x4 x5 x6 x7 x8 x9 x10 x11 x12 x13 x14) → R) (key : ∀ (x0 : Option Addr) (x1 : Nat) (x2 : Option Addr) (x3 : Nat) (x4 : Option Addr) (x5 : Nat) (x6 : Option Addr) (x7 : Nat) (x8 : Option Addr) (x9 : Nat) (x10 : Option Addr) (x11 : Nat) (x12 : Nat) (x13 : Nat) (x14 : World), P x0 x1 x2 x3 x4 x5 x6 x7 x8 x9 x10 x11 x12 x13 x14 → G x0 x1 x2 x3 x4 x5 x6 x7 x8 x9 x10 x11 x12 x13 x14) : R := use key
theorem memo_ananannnw {G P : (Option Addr) → (Nat) → (Option Addr) → (Nat) → (Option Addr) → (Nat) → (Nat) → (Nat) → (World) → Prop} {R : Prop} (use : (∀ (x0 : Option Addr) (x1 : Nat) (x2 : Option Addr) (x3 : Nat) (x4 : Option Addr) (x5 : Nat) (x6 : Nat) (x7 : Nat) (x8 : World), P x0 x1 x2 x3 x4 x5 x6 x7 x8 → G x0 x1 x2 x3 x4 x5 x6 x7 x8) → R) (key : ∀ (x0 : Option Addr) (x1 : Nat) (x2 : Option Addr) (x3 : Nat) (x4 : Option Addr) (x5 : Nat) (x6 : Nat) (x7 : Nat) (x8 : World), P x0 x1 x2 x3 x4 x5 x6 x7 x8 → G x0 x1 x2 x3 x4 x5 x6 x7 x8) : R := use key
theorem memo_anananananannnnw {G P : (Option Addr) → (Nat) → (Option Addr) → (Nat) → (Option Addr) → (Nat) → (Option Addr) → (Nat) → (Option Addr) → (Nat) → (Option Addr) → (Nat) → (Nat) → (Nat) → (Nat) → (World) → Prop} {R : Prop} (use : (∀ (x0 : Option Addr) (x1 : Nat) (x2 : Option Addr) (x3 : Nat) (x4 : Option Addr) (x5 : Nat) (x6 : Option Addr) (x7 : Nat) (x8 : Option Addr) (x9 : Nat) (x10 : Option Addr) (x11 : Nat) (x12 : Nat) (x13 : Nat) (x14 : Nat) (x15 : World), P x0 x1 x2 x3 x4 x5 x6 x7 x8 x9 x10 x11 x12 x13 x14 x15 → G x0 x1 x2 x3 x4 x5 x6 x7 x8 x9 x10 x11 x12 x13 x14 x15) → R) (key : ∀ (x0 : Option Addr) (x1 : Nat) (x2 : Option Addr) (x3 : Nat) (x4 : Option Addr) (x5 : Nat) (x6 : Option Addr) (x7 : Nat) (x8 : Option Addr) (x9 : Nat) (x10 : Option Addr) (x11 : Nat) (x12 : Nat) (x13 : Nat) (x14 : Nat) (x15 : World), P x0 x1 x2 x3 x4 x5 x6 x7 x8 x9 x10 x11 x12 x13 x14 x15 → G x0 x1 x2 x3 x4 x5 x6 x7 x8 x9 x10 x11 x12 x13 x14 x15) : R := use key

set_option maxRecDepth 100000 in
set_option maxHeartbeats 4000000 in
theorem law_fnExactFilWrite (v u : Value) (S : StoD) (F : FilD) (off : Int) (data : ByteArray) (hB : StoBig S) (hF : F.xs.length ≤ 9223372036854775807) (hd : data.size ≤ 9223372036854775807) (w : World) (h : IsSto w v S) (h2 : IsFil w u F) :
    Calls Try.prog 3 #[v, u, .int .i64 off, .string data] w fun e w' => e = .returned (.bool true) ∧ Below w.heap.size w w' := by
  obtain ⟨A1, A1c, A2, A2c, rfl, r1, r2⟩ := h
  obtain ⟨A3, A3c, rfl, r3⟩ := h2
  have HSto := Lib.hid (show ∀ W, Below w.heap.size w W → IsSto W (.agg #[.slice A1 S.bs.length A1c, .slice A2 S.ds.length A2c]) S from fun W hb => ⟨A1, A1c, A2, A2c, rfl, r1.nxt hb, r2.nxt hb⟩)
  have HFil := Lib.hid (show ∀ W, Below w.heap.size w W → IsFil W (.agg #[.int .i64 F.sz, .slice A3 F.xs.length A3c]) F from fun W hb => ⟨A3, A3c, rfl, r3.nxt hb⟩)
  have HB := Lib.hid hB
  clear r1 r2 r3 hB
  by_cases big : (1048576 : Int) < (data.size : Int)
  · have bign : 1048576 < data.size := by omega
    go_enter Try.func3, Try.ntmps3
    go_wp2
    go_ret
    exact ⟨rfl, belA (belA (bel0 w) _) _⟩
  have bign : ¬ 1048576 < data.size := by omega
  go_enter Try.func3, Try.ntmps3
  obtain ⟨w0, hw0⟩ : ∃ W, (w.alloc (.cells #[.slice A1 S.bs.length A1c, .slice A2 S.ds.length A2c] 25)).alloc (.cells #[.int .i64 F.sz, .slice A3 F.xs.length A3c] 28) = W := ⟨_, rfl⟩
  have kS : Blk w0 w.heap.size 25 #[.slice A1 S.bs.length A1c, .slice A2 S.ds.length A2c] := by rw [← hw0]; exact (Blk.new' _ _ _ _ rfl).alloc _
  have kF : Blk w0 (w.heap.size + 1) 28 #[.int .i64 F.sz, .slice A3 F.xs.length A3c] := by rw [← hw0]; exact Blk.new' _ _ _ _ (by simp)
  have B0 : Below w.heap.size w w0 := by rw [← hw0]; exact belA (belA (bel0 w) _) _
  have z0 := B0.size
  have AS_0 := Lib.hid (kS)
  have AF_0 := Lib.hid (kF)
  have lgA := kF.lt
  clear kS kF
  have cAS0 := AS_0.out.get (x := .slice A1 S.bs.length A1c) 0 rfl
  have cAS1 := AS_0.out.get (x := .slice A2 S.ds.length A2c) 1 rfl
  have lAS := AS_0.out.lt
  go_wp2_with fail
  try rw [hw0]
  clear hw0
  clear cAS0 cAS1 lAS
  refine (szStore_is _ S HB.out 1048576 (by omega) (by omega) _ (HSto.out _ B0)).mono ?_
  rintro e w1 ⟨r1, rfl, hr1, hb1⟩
  have B1 := belN B0 hb1
  have z1 := hb1.size
  have AS_1 := Lib.hid (AS_0.out.below hb1 AS_0.out.lt)
  clear AS_0
  have AF_1 := Lib.hid (AF_0.out.below hb1 AF_0.out.lt)
  clear AF_0
  by_cases neg1 : r1 < 0
  · go_wp2
    go_ret
    exact ⟨rfl, B1⟩
  have cAF0 := AF_1.out.get (x := .int .i64 F.sz) 0 rfl
  have cAF1 := AF_1.out.get (x := .slice A3 F.xs.length A3c) 1 rfl
  have lAF := AF_1.out.lt
  go_wp2_with fail
  clear cAF0 cAF1 lAF
  refine (szFil_is _ F hF r1 (by omega) (by omega) _ (HFil.out _ B1)).mono ?_
  rintro e w2 ⟨r2, rfl, hr2, hb2⟩
  have B2 := belN B1 hb2
  have z2 := hb2.size
  have AS_2 := Lib.hid (AS_1.out.below hb2 AS_1.out.lt)
  clear AS_1
  have AF_2 := Lib.hid (AF_1.out.below hb2 AF_1.out.lt)
  clear AF_1
  by_cases neg2 : r2 < 0
  · go_wp2
    go_ret
    exact ⟨rfl, B2⟩
  have smS : StoSm S := sto_sm (by omega)
  have smF : F.xs.length ≤ 10000000 := by omega
  obtain ⟨⟨S', F', ok⟩, hP⟩ : ∃ p : StoD × FilD × Bool, writeP S F off data = p := ⟨_, rfl⟩
  obtain ⟨q1, q2, q3⟩ := writeP_sm smS (by omega) hP
  have HP := Lib.hid hP
  have HsmS := Lib.hid smS
  have HsmF := Lib.hid smF
  clear hP smS smF
  have hd2 : data.size ≤ 9223372036854775807 := by omega
  go_upto_region 10 with fail
  clear hr1 hr2 neg1 neg2
  have HA_S := AS_2.out
  have HA_F := AF_2.out
  go_cut [10, 11, 12] from 37 to 47 (fun s1 s2 s3 wx => ∃ (gS gF lp hp : Nat) (P1 : Option Addr) (P1c : Nat) (P2 : Option Addr) (P2c : Nat) (P3 : Option Addr) (P3c : Nat), s1 = .pointer (some ⟨gS, 0, none⟩) ∧ s2 = .pointer (some ⟨gF, 0, none⟩) ∧ s3 = .bool ok ∧ w.heap.size ≤ lp ∧ Hid (Blk wx gS 31 #[.slice P1 S'.bs.length P1c, .slice P2 S'.ds.length P2c]) ∧ Hid (Blk wx gF 34 #[.int .i64 F'.sz, .slice P3 F'.xs.length P3c]) ∧ Hid (StoIn lp hp (.agg #[.slice P1 S'.bs.length P1c, .slice P2 S'.ds.length P2c]) S' wx) ∧ Hid (FilIn lp hp (.agg #[.int .i64 F'.sz, .slice P3 F'.xs.length P3c]) F' wx) ∧ Below w2.heap.size w2 wx)
  case first => as_aux_lemma =>
    refine wp_region_held_drew (S := fun w' => w'.cell? ⟨w.heap.size, 0, none⟩ = some (.slice A1 S.bs.length A1c) ∧ w'.cell? ⟨w.heap.size, 1, none⟩ = some (.slice A2 S.ds.length A2c) ∧ w'.cell? ⟨(w.heap.size + 1), 0, none⟩ = some (.int .i64 F.sz) ∧ w'.cell? ⟨(w.heap.size + 1), 1, none⟩ = some (.slice A3 F.xs.length A3c)) (by kernel_rfl) (by exact S4 HA_S HA_F) (fun hHeld => ?_)
    clear hHeld
    refine foldH ?_
    intro r hr0
    have bw : Below w2.heap.size w2 r := by rw [hr0]; exact (bel0 w2).drew
    have kAS : Blk r w.heap.size 25 #[.slice A1 S.bs.length A1c, .slice A2 S.ds.length A2c] := by rw [hr0]; exact HA_S.drew
    have kAF : Blk r (w.heap.size + 1) 28 #[.int .i64 F.sz, .slice A3 F.xs.length A3c] := by rw [hr0]; exact HA_F.drew
    clear hr0
    apply memo_anananananannnnw (P := fun P1 P1c P2 P2c P3 P3c Y1 Y1c Y2 Y2c Y3 Y3c aD aE lp q => Below w2.heap.size w2 q ∧ Blk q (w.heap.size + 1) 28 #[.int .i64 F.sz, .slice A3 F.xs.length A3c] ∧ Blk q w.heap.size 25 #[.slice A1 S.bs.length A1c, .slice A2 S.ds.length A2c] ∧ Blk q aD 31 #[.slice P1 S'.bs.length P1c, .slice P2 S'.ds.length P2c] ∧ Blk q aE 34 #[.int .i64 F'.sz, .slice P3 F'.xs.length P3c] ∧ OwnFil lp (.agg #[.int .i64 F'.sz, .slice P3 F'.xs.length P3c]) F' q ∧ OwnSto lp (.agg #[.slice P1 S'.bs.length P1c, .slice P2 S'.ds.length P2c]) S' q ∧ w2.heap.size ≤ aD ∧ w2.heap.size ≤ aE ∧ w.heap.size ≤ lp)
    case use =>
     intro key_fwP_1_3_6_11_12_13_14
     apply memo_anananananannnnw (P := fun P1 P1c P2 P2c P3 P3c Y1 Y1c Y2 Y2c Y3 Y3c aD aE lp q => Below w2.heap.size w2 q ∧ Blk q (w.heap.size + 1) 28 #[.int .i64 F.sz, .slice A3 F.xs.length A3c] ∧ Blk q w.heap.size 25 #[.slice A1 S.bs.length A1c, .slice A2 S.ds.length A2c] ∧ Blk q aD 31 #[.slice P1 S'.bs.length P1c, .slice P2 S'.ds.length P2c] ∧ Blk q aE 34 #[.int .i64 0, .slice none 0 0] ∧ OwnFil lp (.agg #[.int .i64 F'.sz, .slice P3 F'.xs.length P3c]) F' q ∧ OwnSto lp (.agg #[.slice P1 S'.bs.length P1c, .slice P2 S'.ds.length P2c]) S' q ∧ w2.heap.size ≤ aD ∧ w2.heap.size ≤ aE ∧ w.heap.size ≤ lp)
     case use =>
      intro key_fwP_1_3_6_11_12_13
      apply memo_anananananannnnw (P := fun P1 P1c P2 P2c P3 P3c Y1 Y1c Y2 Y2c Y3 Y3c aD aE lp q => Below w2.heap.size w2 q ∧ Blk q (w.heap.size + 1) 28 #[.int .i64 F.sz, .slice A3 F.xs.length A3c] ∧ Blk q w.heap.size 25 #[.slice A1 S.bs.length A1c, .slice A2 S.ds.length A2c] ∧ Blk q aD 31 #[.slice none 0 0, .slice none 0 0] ∧ Blk q aE 34 #[.int .i64 0, .slice none 0 0] ∧ OwnFil lp (.agg #[.int .i64 F'.sz, .slice P3 F'.xs.length P3c]) F' q ∧ OwnSto lp (.agg #[.slice P1 S'.bs.length P1c, .slice P2 S'.ds.length P2c]) S' q ∧ w2.heap.size ≤ aD ∧ w2.heap.size ≤ aE ∧ w.heap.size ≤ lp)
      case use =>
       intro key_fwP_1_3_6_11_12
       apply memo_ananannnw (P := fun Y1 Y1c Y2 Y2c Y3 Y3c aD aE q => Below w2.heap.size w2 q ∧ Blk q (w.heap.size + 1) 28 #[.int .i64 F.sz, .slice A3 F.xs.length A3c] ∧ Blk q w.heap.size 25 #[.slice A1 S.bs.length A1c, .slice A2 S.ds.length A2c] ∧ Blk q aD 31 #[.slice none 0 0, .slice none 0 0] ∧ Blk q aE 34 #[.int .i64 0, .slice none 0 0] ∧ IsFil q (.agg #[.int .i64 F.sz, .slice Y3 F.xs.length Y3c]) F ∧ IsSto q (.agg #[.slice Y1 S.bs.length Y1c, .slice Y2 S.ds.length Y2c]) S ∧ w2.heap.size ≤ aD ∧ w2.heap.size ≤ aE)
       case use =>
        intro key_fwP_1_3_11_12
        apply memo_anananananannnw (P := fun P1 P1c P2 P2c P3 P3c Y1 Y1c Y2 Y2c Y3 Y3c aE lp q => Below w2.heap.size w2 q ∧ Blk q (w.heap.size + 1) 28 #[.int .i64 F.sz, .slice A3 F.xs.length A3c] ∧ Blk q w.heap.size 25 #[.slice A1 S.bs.length A1c, .slice A2 S.ds.length A2c] ∧ Blk q aE 34 #[.int .i64 0, .slice none 0 0] ∧ OwnFil lp (.agg #[.int .i64 F'.sz, .slice P3 F'.xs.length P3c]) F' q ∧ OwnSto lp (.agg #[.slice P1 S'.bs.length P1c, .slice P2 S'.ds.length P2c]) S' q ∧ w2.heap.size ≤ aE ∧ w.heap.size ≤ lp)
        case use =>
         intro key_fwP_1_3_6_12
         apply memo_anananananannnw (P := fun P1 P1c P2 P2c P3 P3c Y1 Y1c Y2 Y2c Y3 Y3c aD lp q => Below w2.heap.size w2 q ∧ Blk q (w.heap.size + 1) 28 #[.int .i64 F.sz, .slice A3 F.xs.length A3c] ∧ Blk q w.heap.size 25 #[.slice A1 S.bs.length A1c, .slice A2 S.ds.length A2c] ∧ Blk q aD 31 #[.slice none 0 0, .slice none 0 0] ∧ OwnFil lp (.agg #[.int .i64 F'.sz, .slice P3 F'.xs.length P3c]) F' q ∧ OwnSto lp (.agg #[.slice P1 S'.bs.length P1c, .slice P2 S'.ds.length P2c]) S' q ∧ w2.heap.size ≤ aD ∧ w.heap.size ≤ lp)
         case use =>
          intro key_fwP_1_3_6_11
          apply memo_anannnw (P := fun Y1 Y1c Y2 Y2c aD aE q => Below w2.heap.size w2 q ∧ Blk q (w.heap.size + 1) 28 #[.int .i64 F.sz, .slice A3 F.xs.length A3c] ∧ Blk q w.heap.size 25 #[.slice A1 S.bs.length A1c, .slice A2 S.ds.length A2c] ∧ Blk q aD 31 #[.slice none 0 0, .slice none 0 0] ∧ Blk q aE 34 #[.int .i64 0, .slice none 0 0] ∧ IsSto q (.agg #[.slice Y1 S.bs.length Y1c, .slice Y2 S.ds.length Y2c]) S ∧ w2.heap.size ≤ aD ∧ w2.heap.size ≤ aE)
          case use =>
           intro key_fwP_1_11_12
           apply memo_ananannw (P := fun Y1 Y1c Y2 Y2c Y3 Y3c aE q => Below w2.heap.size w2 q ∧ Blk q (w.heap.size + 1) 28 #[.int .i64 F.sz, .slice A3 F.xs.length A3c] ∧ Blk q w.heap.size 25 #[.slice A1 S.bs.length A1c, .slice A2 S.ds.length A2c] ∧ Blk q aE 34 #[.int .i64 0, .slice none 0 0] ∧ IsFil q (.agg #[.int .i64 F.sz, .slice Y3 F.xs.length Y3c]) F ∧ IsSto q (.agg #[.slice Y1 S.bs.length Y1c, .slice Y2 S.ds.length Y2c]) S ∧ w2.heap.size ≤ aE)
           case use =>
            intro key_fwP_1_3_12
            apply memo_ananannw (P := fun Y1 Y1c Y2 Y2c Y3 Y3c aD q => Below w2.heap.size w2 q ∧ Blk q (w.heap.size + 1) 28 #[.int .i64 F.sz, .slice A3 F.xs.length A3c] ∧ Blk q w.heap.size 25 #[.slice A1 S.bs.length A1c, .slice A2 S.ds.length A2c] ∧ Blk q aD 31 #[.slice none 0 0, .slice none 0 0] ∧ IsFil q (.agg #[.int .i64 F.sz, .slice Y3 F.xs.length Y3c]) F ∧ IsSto q (.agg #[.slice Y1 S.bs.length Y1c, .slice Y2 S.ds.length Y2c]) S ∧ w2.heap.size ≤ aD)
            case use =>
             intro key_fwP_1_3_11
             apply memo_anananananannw (P := fun P1 P1c P2 P2c P3 P3c Y1 Y1c Y2 Y2c Y3 Y3c lp q => Below w2.heap.size w2 q ∧ Blk q (w.heap.size + 1) 28 #[.int .i64 F.sz, .slice A3 F.xs.length A3c] ∧ Blk q w.heap.size 25 #[.slice A1 S.bs.length A1c, .slice A2 S.ds.length A2c] ∧ OwnFil lp (.agg #[.int .i64 F'.sz, .slice P3 F'.xs.length P3c]) F' q ∧ OwnSto lp (.agg #[.slice P1 S'.bs.length P1c, .slice P2 S'.ds.length P2c]) S' q ∧ w.heap.size ≤ lp)
             case use =>
              intro key_fwP_1_3_6
              apply memo_nnw (P := fun aD aE q => Below w2.heap.size w2 q ∧ Blk q (w.heap.size + 1) 28 #[.int .i64 F.sz, .slice A3 F.xs.length A3c] ∧ Blk q w.heap.size 25 #[.slice A1 S.bs.length A1c, .slice A2 S.ds.length A2c] ∧ Blk q aD 31 #[.slice none 0 0, .slice none 0 0] ∧ Blk q aE 34 #[.int .i64 0, .slice none 0 0] ∧ w2.heap.size ≤ aD ∧ w2.heap.size ≤ aE)
              case use =>
               intro key_fwP_11_12
               apply memo_anannw (P := fun Y1 Y1c Y2 Y2c aE q => Below w2.heap.size w2 q ∧ Blk q (w.heap.size + 1) 28 #[.int .i64 F.sz, .slice A3 F.xs.length A3c] ∧ Blk q w.heap.size 25 #[.slice A1 S.bs.length A1c, .slice A2 S.ds.length A2c] ∧ Blk q aE 34 #[.int .i64 0, .slice none 0 0] ∧ IsSto q (.agg #[.slice Y1 S.bs.length Y1c, .slice Y2 S.ds.length Y2c]) S ∧ w2.heap.size ≤ aE)
               case use =>
                intro key_fwP_1_12
                apply memo_anannw (P := fun Y1 Y1c Y2 Y2c aD q => Below w2.heap.size w2 q ∧ Blk q (w.heap.size + 1) 28 #[.int .i64 F.sz, .slice A3 F.xs.length A3c] ∧ Blk q w.heap.size 25 #[.slice A1 S.bs.length A1c, .slice A2 S.ds.length A2c] ∧ Blk q aD 31 #[.slice none 0 0, .slice none 0 0] ∧ IsSto q (.agg #[.slice Y1 S.bs.length Y1c, .slice Y2 S.ds.length Y2c]) S ∧ w2.heap.size ≤ aD)
                case use =>
                 intro key_fwP_1_11
                 apply memo_anananw (P := fun Y1 Y1c Y2 Y2c Y3 Y3c q => Below w2.heap.size w2 q ∧ Blk q (w.heap.size + 1) 28 #[.int .i64 F.sz, .slice A3 F.xs.length A3c] ∧ Blk q w.heap.size 25 #[.slice A1 S.bs.length A1c, .slice A2 S.ds.length A2c] ∧ IsFil q (.agg #[.int .i64 F.sz, .slice Y3 F.xs.length Y3c]) F ∧ IsSto q (.agg #[.slice Y1 S.bs.length Y1c, .slice Y2 S.ds.length Y2c]) S)
                 case use =>
                  intro key_fwP_1_3
                  apply memo_nw (P := fun aE q => Below w2.heap.size w2 q ∧ Blk q (w.heap.size + 1) 28 #[.int .i64 F.sz, .slice A3 F.xs.length A3c] ∧ Blk q w.heap.size 25 #[.slice A1 S.bs.length A1c, .slice A2 S.ds.length A2c] ∧ Blk q aE 34 #[.int .i64 0, .slice none 0 0] ∧ w2.heap.size ≤ aE)
                  case use =>
                   intro key_fwP_12
                   apply memo_nw (P := fun aD q => Below w2.heap.size w2 q ∧ Blk q (w.heap.size + 1) 28 #[.int .i64 F.sz, .slice A3 F.xs.length A3c] ∧ Blk q w.heap.size 25 #[.slice A1 S.bs.length A1c, .slice A2 S.ds.length A2c] ∧ Blk q aD 31 #[.slice none 0 0, .slice none 0 0] ∧ w2.heap.size ≤ aD)
                   case use =>
                    intro key_fwP_11
                    apply memo_ananw (P := fun Y1 Y1c Y2 Y2c q => Below w2.heap.size w2 q ∧ Blk q (w.heap.size + 1) 28 #[.int .i64 F.sz, .slice A3 F.xs.length A3c] ∧ Blk q w.heap.size 25 #[.slice A1 S.bs.length A1c, .slice A2 S.ds.length A2c] ∧ IsSto q (.agg #[.slice Y1 S.bs.length Y1c, .slice Y2 S.ds.length Y2c]) S)
                    case use =>
                     intro key_fwP_1
                     refine wpAnyH_take (i := 0) (oi := ?oi1) (v := ?v1) ?hi1 ?hs1 ?hf1 ?hr1 ?hQ1 ?hy1 ?hS1 ?hrest1
                     case hi1 => (conv => lhs; simp only [List.getElem?_toArray, List.getElem?_cons_zero]); try exact rfl
                     case hs1 => kernel_rfl
                     case hf1 => kernel_rfl
                     case hr1 => kernel_rfl
                     case hQ1 => exact fun _ _ _ h => h
                     case hS1 => exact S4 kAS kAF
                     case hy1 => refine Or.inl ⟨by rfl, ?_⟩; intro w hSw; (try dsimp only at hSw); go_simp; (try with_reducible rfl)
                     simp only [Act.put, List.setIfInBounds_toArray, List.set_cons_zero, List.set_cons_succ]
                     refine wpAnyH_take (i := 2) (oi := ?oi2) (v := ?v2) ?hi2 ?hs2 ?hf2 ?hr2 ?hQ2 ?hy2 ?hS2 ?hrest2
                     case hi2 => (conv => lhs; simp only [List.getElem?_toArray, List.getElem?_cons_zero, List.getElem?_cons_succ]); try exact rfl
                     case hs2 => kernel_rfl
                     case hf2 => kernel_rfl
                     case hr2 => kernel_rfl
                     case hQ2 => exact fun _ _ _ h => h
                     case hS2 => exact S4 kAS kAF
                     case hy2 => refine Or.inl ⟨by rfl, ?_⟩; intro w hSw; (try dsimp only at hSw); go_simp; (try with_reducible rfl)
                     simp only [Act.put, List.setIfInBounds_toArray, List.set_cons_zero, List.set_cons_succ]
                     refine wpAnyH_take (i := 4) (oi := ?oi3) (v := ?v3) ?hi3 ?hs3 ?hf3 ?hr3 ?hQ3 ?hy3 ?hS3 ?hrest3
                     case hi3 => (conv => lhs; simp only [List.getElem?_toArray, List.getElem?_cons_zero, List.getElem?_cons_succ]); try exact rfl
                     case hs3 => kernel_rfl
                     case hf3 => kernel_rfl
                     case hr3 => kernel_rfl
                     case hQ3 => exact fun _ _ _ h => h
                     case hS3 => exact S4 kAS kAF
                     case hy3 => refine Or.inl ⟨by rfl, ?_⟩; intro w hSw; (try dsimp only at hSw); go_simp; (try with_reducible rfl)
                     simp only [Act.put, List.setIfInBounds_toArray, List.set_cons_zero, List.set_cons_succ]
                     refine wpAnyH_take (i := 5) (oi := ?oi4) (v := ?v4) ?hi4 ?hs4 ?hf4 ?hr4 ?hQ4 ?hy4 ?hS4 ?hrest4
                     case hi4 => (conv => lhs; simp only [List.getElem?_toArray, List.getElem?_cons_zero, List.getElem?_cons_succ]); try exact rfl
                     case hs4 => kernel_rfl
                     case hf4 => kernel_rfl
                     case hr4 => kernel_rfl
                     case hQ4 => exact fun _ _ _ h => h
                     case hS4 => exact S4 kAS kAF
                     case hy4 => refine Or.inl ⟨by rfl, ?_⟩; intro w hSw; (try dsimp only at hSw); go_simp; (try with_reducible rfl)
                     simp only [Act.put, List.setIfInBounds_toArray, List.set_cons_zero, List.set_cons_succ]
                     refine wpAnyH_ready (rs := [1, 11, 12]) (by kernel_rfl) (by simp) ?_
                     refine AllReadyH.cons (o := ?oi5) ?hi5 (fun K hK => ?br5) (AllReadyH.cons (o := ?oi6) ?hi6 (fun K hK => ?br6) (AllReadyH.cons (o := ?oi7) ?hi7 (fun K hK => ?br7) AllReadyH.nil))
                     case hi5 => (conv => lhs; simp only [List.getElem?_toArray, List.getElem?_cons_zero, List.getElem?_cons_succ]); try exact rfl
                     case hi6 => (conv => lhs; simp only [List.getElem?_toArray, List.getElem?_cons_zero, List.getElem?_cons_succ]); try exact rfl
                     case hi7 => (conv => lhs; simp only [List.getElem?_toArray, List.getElem?_cons_zero, List.getElem?_cons_succ]); try exact rfl
                     case br5 =>
                      go_simp
                      go_at_call 7
                      refine (toStore_is _ S HsmS.out _ (HSto.out _ (belN B2 bw))).mono ?_
                      rintro e q ⟨_, rfl, hOA, hb⟩
                      have bw2 := bw.trans (hb.mono bw.size)
                      have kAS2 := kAS.below hb kAS.lt
                      have kAF2 := kAF.below hb kAF.lt
                      obtain ⟨Y1, Y1c, Y2, Y2c, rfl, hy1, hy2⟩ := hOA.sto
                      have pY2 : IsSto q (.agg #[.slice Y1 S.bs.length Y1c, .slice Y2 S.ds.length Y2c]) S := ⟨_, _, _, _, rfl, hy1, hy2⟩
                      clear hOA hy1 hy2
                      refine hK.out _ _ (by exact S4 kAS2 kAF2) (fun _ => ?_)
                      clear hK K
                      try simp only [Act.put, List.setIfInBounds_toArray, List.set_cons_zero, List.set_cons_succ]
                      exact key_fwP_1 Y1 Y1c Y2 Y2c q ⟨bw2, kAF2, kAS2, pY2⟩
                     case br6 =>
                      go_simp
                      refine hK.out _ _ (by exact S4 (kAS.alloc (.cells #[.slice none 0 0, .slice none 0 0] 31)) (kAF.alloc (.cells #[.slice none 0 0, .slice none 0 0] 31))) (fun _ => ?_)
                      clear hK K
                      try simp only [Act.put, List.setIfInBounds_toArray, List.set_cons_zero, List.set_cons_succ]
                      refine foldH ?_
                      intro q hq
                      obtain ⟨aD, ha⟩ : ∃ g, r.heap.size = g := ⟨_, rfl⟩
                      rw [ha]
                      have bw2 : Below w2.heap.size w2 q := by rw [hq]; exact belA bw _
                      have kAS2 : Blk q _ _ _ := hq ▸ kAS.alloc (.cells #[.slice none 0 0, .slice none 0 0] 31)
                      have kAF2 : Blk q _ _ _ := hq ▸ kAF.alloc (.cells #[.slice none 0 0, .slice none 0 0] 31)
                      have kD2 : Blk q aD 31 #[.slice none 0 0, .slice none 0 0] := by rw [hq, ← ha]; exact Blk.new' _ _ _ _ rfl
                      have laD : w2.heap.size ≤ aD := by rw [← ha]; exact bw.size
                      exact key_fwP_11 aD q ⟨bw2, kAF2, kAS2, kD2, laD⟩
                     case br7 =>
                      go_simp
                      refine hK.out _ _ (by exact S4 (kAS.alloc (.cells #[.int .i64 0, .slice none 0 0] 34)) (kAF.alloc (.cells #[.int .i64 0, .slice none 0 0] 34))) (fun _ => ?_)
                      clear hK K
                      try simp only [Act.put, List.setIfInBounds_toArray, List.set_cons_zero, List.set_cons_succ]
                      refine foldH ?_
                      intro q hq
                      obtain ⟨aE, ha⟩ : ∃ g, r.heap.size = g := ⟨_, rfl⟩
                      rw [ha]
                      have bw2 : Below w2.heap.size w2 q := by rw [hq]; exact belA bw _
                      have kAS2 : Blk q _ _ _ := hq ▸ kAS.alloc (.cells #[.int .i64 0, .slice none 0 0] 34)
                      have kAF2 : Blk q _ _ _ := hq ▸ kAF.alloc (.cells #[.int .i64 0, .slice none 0 0] 34)
                      have kE2 : Blk q aE 34 #[.int .i64 0, .slice none 0 0] := by rw [hq, ← ha]; exact Blk.new' _ _ _ _ rfl
                      have laE : w2.heap.size ≤ aE := by rw [← ha]; exact bw.size
                      exact key_fwP_12 aE q ⟨bw2, kAF2, kAS2, kE2, laE⟩
                    case key =>
                     rintro Y1 Y1c Y2 Y2c r ⟨bw, kAF, kAS, pY⟩
                     try dsimp only
                     refine wpAnyH_ready (rs := [3, 11, 12]) (by kernel_rfl) (by simp) ?_
                     refine AllReadyH.cons (o := ?oi8) ?hi8 (fun K hK => ?br8) (AllReadyH.cons (o := ?oi9) ?hi9 (fun K hK => ?br9) (AllReadyH.cons (o := ?oi10) ?hi10 (fun K hK => ?br10) AllReadyH.nil))
                     case hi8 => (conv => lhs; simp only [List.getElem?_toArray, List.getElem?_cons_zero, List.getElem?_cons_succ]); try exact rfl
                     case hi9 => (conv => lhs; simp only [List.getElem?_toArray, List.getElem?_cons_zero, List.getElem?_cons_succ]); try exact rfl
                     case hi10 => (conv => lhs; simp only [List.getElem?_toArray, List.getElem?_cons_zero, List.getElem?_cons_succ]); try exact rfl
                     case br8 =>
                      go_simp
                      go_at_call 8
                      refine (toFil_is _ F HsmF.out _ (HFil.out _ (belN B2 bw))).mono ?_
                      rintro e q ⟨_, rfl, hOB, hb⟩
                      have bw2 := bw.trans (hb.mono bw.size)
                      have kAS2 := kAS.below hb kAS.lt
                      have kAF2 := kAF.below hb kAF.lt
                      have pY2 := pY.next hb
                      obtain ⟨Y3, Y3c, rfl, hy1⟩ := hOB.fil
                      have pV2 : IsFil q (.agg #[.int .i64 F.sz, .slice Y3 F.xs.length Y3c]) F := ⟨_, _, rfl, hy1⟩
                      clear hOB hy1
                      refine hK.out _ _ (by exact S4 kAS2 kAF2) (fun _ => ?_)
                      clear hK K
                      try simp only [Act.put, List.setIfInBounds_toArray, List.set_cons_zero, List.set_cons_succ]
                      exact key_fwP_1_3 Y1 Y1c Y2 Y2c Y3 Y3c q ⟨bw2, kAF2, kAS2, pV2, pY2⟩
                     case br9 =>
                      go_simp
                      refine hK.out _ _ (by exact S4 (kAS.alloc (.cells #[.slice none 0 0, .slice none 0 0] 31)) (kAF.alloc (.cells #[.slice none 0 0, .slice none 0 0] 31))) (fun _ => ?_)
                      clear hK K
                      try simp only [Act.put, List.setIfInBounds_toArray, List.set_cons_zero, List.set_cons_succ]
                      refine foldH ?_
                      intro q hq
                      obtain ⟨aD, ha⟩ : ∃ g, r.heap.size = g := ⟨_, rfl⟩
                      rw [ha]
                      have bw2 : Below w2.heap.size w2 q := by rw [hq]; exact belA bw _
                      have kAS2 : Blk q _ _ _ := hq ▸ kAS.alloc (.cells #[.slice none 0 0, .slice none 0 0] 31)
                      have kAF2 : Blk q _ _ _ := hq ▸ kAF.alloc (.cells #[.slice none 0 0, .slice none 0 0] 31)
                      have pY2 : IsSto q (.agg #[.slice Y1 S.bs.length Y1c, .slice Y2 S.ds.length Y2c]) S := by rw [hq]; exact pY.next (belA (bel0 _) _)
                      have kD2 : Blk q aD 31 #[.slice none 0 0, .slice none 0 0] := by rw [hq, ← ha]; exact Blk.new' _ _ _ _ rfl
                      have laD : w2.heap.size ≤ aD := by rw [← ha]; exact bw.size
                      exact key_fwP_1_11 Y1 Y1c Y2 Y2c aD q ⟨bw2, kAF2, kAS2, kD2, pY2, laD⟩
                     case br10 =>
                      go_simp
                      refine hK.out _ _ (by exact S4 (kAS.alloc (.cells #[.int .i64 0, .slice none 0 0] 34)) (kAF.alloc (.cells #[.int .i64 0, .slice none 0 0] 34))) (fun _ => ?_)
                      clear hK K
                      try simp only [Act.put, List.setIfInBounds_toArray, List.set_cons_zero, List.set_cons_succ]
                      refine foldH ?_
                      intro q hq
                      obtain ⟨aE, ha⟩ : ∃ g, r.heap.size = g := ⟨_, rfl⟩
                      rw [ha]
                      have bw2 : Below w2.heap.size w2 q := by rw [hq]; exact belA bw _
                      have kAS2 : Blk q _ _ _ := hq ▸ kAS.alloc (.cells #[.int .i64 0, .slice none 0 0] 34)
                      have kAF2 : Blk q _ _ _ := hq ▸ kAF.alloc (.cells #[.int .i64 0, .slice none 0 0] 34)
                      have pY2 : IsSto q (.agg #[.slice Y1 S.bs.length Y1c, .slice Y2 S.ds.length Y2c]) S := by rw [hq]; exact pY.next (belA (bel0 _) _)
                      have kE2 : Blk q aE 34 #[.int .i64 0, .slice none 0 0] := by rw [hq, ← ha]; exact Blk.new' _ _ _ _ rfl
                      have laE : w2.heap.size ≤ aE := by rw [← ha]; exact bw.size
                      exact key_fwP_1_12 Y1 Y1c Y2 Y2c aE q ⟨bw2, kAF2, kAS2, kE2, pY2, laE⟩
                   case key =>
                    rintro aD r ⟨bw, kAF, kAS, kD, laD⟩
                    try dsimp only
                    refine wpAnyH_ready (rs := [1, 12]) (by kernel_rfl) (by simp) ?_
                    refine AllReadyH.cons (o := ?oi11) ?hi11 (fun K hK => ?br11) (AllReadyH.cons (o := ?oi12) ?hi12 (fun K hK => ?br12) AllReadyH.nil)
                    case hi11 => (conv => lhs; simp only [List.getElem?_toArray, List.getElem?_cons_zero, List.getElem?_cons_succ]); try exact rfl
                    case hi12 => (conv => lhs; simp only [List.getElem?_toArray, List.getElem?_cons_zero, List.getElem?_cons_succ]); try exact rfl
                    case br11 =>
                     go_simp
                     go_at_call 7
                     refine (toStore_is _ S HsmS.out _ (HSto.out _ (belN B2 bw))).mono ?_
                     rintro e q ⟨_, rfl, hOA, hb⟩
                     have bw2 := bw.trans (hb.mono bw.size)
                     have kAS2 := kAS.below hb kAS.lt
                     have kAF2 := kAF.below hb kAF.lt
                     have kD2 := kD.below hb kD.lt
                     obtain ⟨Y1, Y1c, Y2, Y2c, rfl, hy1, hy2⟩ := hOA.sto
                     have pY2 : IsSto q (.agg #[.slice Y1 S.bs.length Y1c, .slice Y2 S.ds.length Y2c]) S := ⟨_, _, _, _, rfl, hy1, hy2⟩
                     clear hOA hy1 hy2
                     refine hK.out _ _ (by exact S4 kAS2 kAF2) (fun _ => ?_)
                     clear hK K
                     try simp only [Act.put, List.setIfInBounds_toArray, List.set_cons_zero, List.set_cons_succ]
                     exact key_fwP_1_11 Y1 Y1c Y2 Y2c aD q ⟨bw2, kAF2, kAS2, kD2, pY2, laD⟩
                    case br12 =>
                     go_simp
                     refine hK.out _ _ (by exact S4 (kAS.alloc (.cells #[.int .i64 0, .slice none 0 0] 34)) (kAF.alloc (.cells #[.int .i64 0, .slice none 0 0] 34))) (fun _ => ?_)
                     clear hK K
                     try simp only [Act.put, List.setIfInBounds_toArray, List.set_cons_zero, List.set_cons_succ]
                     refine foldH ?_
                     intro q hq
                     obtain ⟨aE, ha⟩ : ∃ g, r.heap.size = g := ⟨_, rfl⟩
                     rw [ha]
                     have bw2 : Below w2.heap.size w2 q := by rw [hq]; exact belA bw _
                     have kAS2 : Blk q _ _ _ := hq ▸ kAS.alloc (.cells #[.int .i64 0, .slice none 0 0] 34)
                     have kAF2 : Blk q _ _ _ := hq ▸ kAF.alloc (.cells #[.int .i64 0, .slice none 0 0] 34)
                     have kD2 : Blk q _ _ _ := hq ▸ kD.alloc (.cells #[.int .i64 0, .slice none 0 0] 34)
                     have kE2 : Blk q aE 34 #[.int .i64 0, .slice none 0 0] := by rw [hq, ← ha]; exact Blk.new' _ _ _ _ rfl
                     have laE : w2.heap.size ≤ aE := by rw [← ha]; exact bw.size
                     exact key_fwP_11_12 aD aE q ⟨bw2, kAF2, kAS2, kD2, kE2, laD, laE⟩
                  case key =>
                   rintro aE r ⟨bw, kAF, kAS, kE, laE⟩
                   try dsimp only
                   refine wpAnyH_ready (rs := [1, 11]) (by kernel_rfl) (by simp) ?_
                   refine AllReadyH.cons (o := ?oi13) ?hi13 (fun K hK => ?br13) (AllReadyH.cons (o := ?oi14) ?hi14 (fun K hK => ?br14) AllReadyH.nil)
                   case hi13 => (conv => lhs; simp only [List.getElem?_toArray, List.getElem?_cons_zero, List.getElem?_cons_succ]); try exact rfl
                   case hi14 => (conv => lhs; simp only [List.getElem?_toArray, List.getElem?_cons_zero, List.getElem?_cons_succ]); try exact rfl
                   case br13 =>
                    go_simp
                    go_at_call 7
                    refine (toStore_is _ S HsmS.out _ (HSto.out _ (belN B2 bw))).mono ?_
                    rintro e q ⟨_, rfl, hOA, hb⟩
                    have bw2 := bw.trans (hb.mono bw.size)
                    have kAS2 := kAS.below hb kAS.lt
                    have kAF2 := kAF.below hb kAF.lt
                    have kE2 := kE.below hb kE.lt
                    obtain ⟨Y1, Y1c, Y2, Y2c, rfl, hy1, hy2⟩ := hOA.sto
                    have pY2 : IsSto q (.agg #[.slice Y1 S.bs.length Y1c, .slice Y2 S.ds.length Y2c]) S := ⟨_, _, _, _, rfl, hy1, hy2⟩
                    clear hOA hy1 hy2
                    refine hK.out _ _ (by exact S4 kAS2 kAF2) (fun _ => ?_)
                    clear hK K
                    try simp only [Act.put, List.setIfInBounds_toArray, List.set_cons_zero, List.set_cons_succ]
                    exact key_fwP_1_12 Y1 Y1c Y2 Y2c aE q ⟨bw2, kAF2, kAS2, kE2, pY2, laE⟩
                   case br14 =>
                    go_simp
                    refine hK.out _ _ (by exact S4 (kAS.alloc (.cells #[.slice none 0 0, .slice none 0 0] 31)) (kAF.alloc (.cells #[.slice none 0 0, .slice none 0 0] 31))) (fun _ => ?_)
                    clear hK K
                    try simp only [Act.put, List.setIfInBounds_toArray, List.set_cons_zero, List.set_cons_succ]
                    refine foldH ?_
                    intro q hq
                    obtain ⟨aD, ha⟩ : ∃ g, r.heap.size = g := ⟨_, rfl⟩
                    rw [ha]
                    have bw2 : Below w2.heap.size w2 q := by rw [hq]; exact belA bw _
                    have kAS2 : Blk q _ _ _ := hq ▸ kAS.alloc (.cells #[.slice none 0 0, .slice none 0 0] 31)
                    have kAF2 : Blk q _ _ _ := hq ▸ kAF.alloc (.cells #[.slice none 0 0, .slice none 0 0] 31)
                    have kE2 : Blk q _ _ _ := hq ▸ kE.alloc (.cells #[.slice none 0 0, .slice none 0 0] 31)
                    have kD2 : Blk q aD 31 #[.slice none 0 0, .slice none 0 0] := by rw [hq, ← ha]; exact Blk.new' _ _ _ _ rfl
                    have laD : w2.heap.size ≤ aD := by rw [← ha]; exact bw.size
                    exact key_fwP_11_12 aD aE q ⟨bw2, kAF2, kAS2, kD2, kE2, laD, laE⟩
                 case key =>
                  rintro Y1 Y1c Y2 Y2c Y3 Y3c r ⟨bw, kAF, kAS, pV, pY⟩
                  try dsimp only
                  refine wpAnyH_ready (rs := [6, 11, 12]) (by kernel_rfl) (by simp) ?_
                  refine AllReadyH.cons (o := ?oi15) ?hi15 (fun K hK => ?br15) (AllReadyH.cons (o := ?oi16) ?hi16 (fun K hK => ?br16) (AllReadyH.cons (o := ?oi17) ?hi17 (fun K hK => ?br17) AllReadyH.nil))
                  case hi15 => (conv => lhs; simp only [List.getElem?_toArray, List.getElem?_cons_zero, List.getElem?_cons_succ]); try exact rfl
                  case hi16 => (conv => lhs; simp only [List.getElem?_toArray, List.getElem?_cons_zero, List.getElem?_cons_succ]); try exact rfl
                  case hi17 => (conv => lhs; simp only [List.getElem?_toArray, List.getElem?_cons_zero, List.getElem?_cons_succ]); try exact rfl
                  case br15 =>
                   go_simp
                   go_at_call 6
                   refine (filWrite_spec _ _ S F HsmS.out HsmF.out off data hd2 HP.out _ pY pV).mono ?_
                   rintro e q ⟨_, _, rfl, hCS, hCF, hb⟩
                   have bw2 := bw.trans (hb.mono bw.size)
                   have kAS2 := kAS.below hb kAS.lt
                   have kAF2 := kAF.below hb kAF.lt
                   obtain ⟨lp, hlp⟩ : ∃ l, r.heap.size = l := ⟨_, rfl⟩
                   rw [hlp] at hCS hCF
                   have lpf : w.heap.size ≤ lp := by rw [← hlp]; exact Nat.le_trans B2.size bw.size
                   obtain ⟨_, _, rfl, oa, ob⟩ := hCS
                   obtain ⟨P1, P1c, rfl, _, _, _⟩ := own_vals oa
                   obtain ⟨P2, P2c, rfl, _, _, _⟩ := own_vals ob
                   obtain ⟨_, rfl, oc⟩ := hCF
                   obtain ⟨P3, P3c, rfl, _, _, _⟩ := own_vals oc
                   have pS2 : OwnSto lp (.agg #[.slice P1 S'.bs.length P1c, .slice P2 S'.ds.length P2c]) S' q := ⟨_, _, rfl, oa, ob⟩
                   have pF2 : OwnFil lp (.agg #[.int .i64 F'.sz, .slice P3 F'.xs.length P3c]) F' q := ⟨_, rfl, oc⟩
                   clear oa ob oc hlp
                   refine hK.out _ _ (by exact S4 kAS2 kAF2) (fun _ => ?_)
                   clear hK K
                   try simp only [Act.put, List.setIfInBounds_toArray, List.set_cons_zero, List.set_cons_succ]
                   refine wpAnyH_take (i := 7) (oi := ?oi18) (v := ?v18) ?hi18 ?hs18 ?hf18 ?hr18 ?hQ18 ?hy18 ?hS18 ?hrest18
                   case hi18 => (conv => lhs; simp only [List.getElem?_toArray, List.getElem?_cons_zero, List.getElem?_cons_succ]); try exact rfl
                   case hs18 => kernel_rfl
                   case hf18 => kernel_rfl
                   case hr18 => kernel_rfl
                   case hQ18 => exact fun _ _ _ h => h
                   case hS18 => exact S4 kAS2 kAF2
                   case hy18 => refine Or.inl ⟨by rfl, ?_⟩; intro w hSw; (try dsimp only at hSw); go_simp; (try with_reducible rfl)
                   simp only [Act.put, List.setIfInBounds_toArray, List.set_cons_zero, List.set_cons_succ]
                   refine wpAnyH_take (i := 8) (oi := ?oi19) (v := ?v19) ?hi19 ?hs19 ?hf19 ?hr19 ?hQ19 ?hy19 ?hS19 ?hrest19
                   case hi19 => (conv => lhs; simp only [List.getElem?_toArray, List.getElem?_cons_zero, List.getElem?_cons_succ]); try exact rfl
                   case hs19 => kernel_rfl
                   case hf19 => kernel_rfl
                   case hr19 => kernel_rfl
                   case hQ19 => exact fun _ _ _ h => h
                   case hS19 => exact S4 kAS2 kAF2
                   case hy19 => refine Or.inl ⟨by rfl, ?_⟩; intro w hSw; (try dsimp only at hSw); go_simp; (try with_reducible rfl)
                   simp only [Act.put, List.setIfInBounds_toArray, List.set_cons_zero, List.set_cons_succ]
                   refine wpAnyH_take (i := 9) (oi := ?oi20) (v := ?v20) ?hi20 ?hs20 ?hf20 ?hr20 ?hQ20 ?hy20 ?hS20 ?hrest20
                   case hi20 => (conv => lhs; simp only [List.getElem?_toArray, List.getElem?_cons_zero, List.getElem?_cons_succ]); try exact rfl
                   case hs20 => kernel_rfl
                   case hf20 => kernel_rfl
                   case hr20 => kernel_rfl
                   case hQ20 => exact fun _ _ _ h => h
                   case hS20 => exact S4 kAS2 kAF2
                   case hy20 => refine Or.inl ⟨by rfl, ?_⟩; intro w hSw; (try dsimp only at hSw); go_simp; (try with_reducible rfl)
                   simp only [Act.put, List.setIfInBounds_toArray, List.set_cons_zero, List.set_cons_succ]
                   refine wpAnyH_take (i := 10) (oi := ?oi21) (v := ?v21) ?hi21 ?hs21 ?hf21 ?hr21 ?hQ21 ?hy21 ?hS21 ?hrest21
                   case hi21 => (conv => lhs; simp only [List.getElem?_toArray, List.getElem?_cons_zero, List.getElem?_cons_succ]); try exact rfl
                   case hs21 => kernel_rfl
                   case hf21 => kernel_rfl
                   case hr21 => kernel_rfl
                   case hQ21 => exact fun _ _ _ h => h
                   case hS21 => exact S4 kAS2 kAF2
                   case hy21 => refine Or.inl ⟨by rfl, ?_⟩; intro w hSw; (try dsimp only at hSw); go_simp; (try with_reducible rfl)
                   simp only [Act.put, List.setIfInBounds_toArray, List.set_cons_zero, List.set_cons_succ]
                   exact key_fwP_1_3_6 P1 P1c P2 P2c P3 P3c Y1 Y1c Y2 Y2c Y3 Y3c lp q ⟨bw2, kAF2, kAS2, pF2, pS2, lpf⟩
                  case br16 =>
                   go_simp
                   refine hK.out _ _ (by exact S4 (kAS.alloc (.cells #[.slice none 0 0, .slice none 0 0] 31)) (kAF.alloc (.cells #[.slice none 0 0, .slice none 0 0] 31))) (fun _ => ?_)
                   clear hK K
                   try simp only [Act.put, List.setIfInBounds_toArray, List.set_cons_zero, List.set_cons_succ]
                   refine foldH ?_
                   intro q hq
                   obtain ⟨aD, ha⟩ : ∃ g, r.heap.size = g := ⟨_, rfl⟩
                   rw [ha]
                   have bw2 : Below w2.heap.size w2 q := by rw [hq]; exact belA bw _
                   have kAS2 : Blk q _ _ _ := hq ▸ kAS.alloc (.cells #[.slice none 0 0, .slice none 0 0] 31)
                   have kAF2 : Blk q _ _ _ := hq ▸ kAF.alloc (.cells #[.slice none 0 0, .slice none 0 0] 31)
                   have pY2 : IsSto q (.agg #[.slice Y1 S.bs.length Y1c, .slice Y2 S.ds.length Y2c]) S := by rw [hq]; exact pY.next (belA (bel0 _) _)
                   have pV2 : IsFil q (.agg #[.int .i64 F.sz, .slice Y3 F.xs.length Y3c]) F := by rw [hq]; exact pV.next (belA (bel0 _) _)
                   have kD2 : Blk q aD 31 #[.slice none 0 0, .slice none 0 0] := by rw [hq, ← ha]; exact Blk.new' _ _ _ _ rfl
                   have laD : w2.heap.size ≤ aD := by rw [← ha]; exact bw.size
                   exact key_fwP_1_3_11 Y1 Y1c Y2 Y2c Y3 Y3c aD q ⟨bw2, kAF2, kAS2, kD2, pV2, pY2, laD⟩
                  case br17 =>
                   go_simp
                   refine hK.out _ _ (by exact S4 (kAS.alloc (.cells #[.int .i64 0, .slice none 0 0] 34)) (kAF.alloc (.cells #[.int .i64 0, .slice none 0 0] 34))) (fun _ => ?_)
                   clear hK K
                   try simp only [Act.put, List.setIfInBounds_toArray, List.set_cons_zero, List.set_cons_succ]
                   refine foldH ?_
                   intro q hq
                   obtain ⟨aE, ha⟩ : ∃ g, r.heap.size = g := ⟨_, rfl⟩
                   rw [ha]
                   have bw2 : Below w2.heap.size w2 q := by rw [hq]; exact belA bw _
                   have kAS2 : Blk q _ _ _ := hq ▸ kAS.alloc (.cells #[.int .i64 0, .slice none 0 0] 34)
                   have kAF2 : Blk q _ _ _ := hq ▸ kAF.alloc (.cells #[.int .i64 0, .slice none 0 0] 34)
                   have pY2 : IsSto q (.agg #[.slice Y1 S.bs.length Y1c, .slice Y2 S.ds.length Y2c]) S := by rw [hq]; exact pY.next (belA (bel0 _) _)
                   have pV2 : IsFil q (.agg #[.int .i64 F.sz, .slice Y3 F.xs.length Y3c]) F := by rw [hq]; exact pV.next (belA (bel0 _) _)
                   have kE2 : Blk q aE 34 #[.int .i64 0, .slice none 0 0] := by rw [hq, ← ha]; exact Blk.new' _ _ _ _ rfl
                   have laE : w2.heap.size ≤ aE := by rw [← ha]; exact bw.size
                   exact key_fwP_1_3_12 Y1 Y1c Y2 Y2c Y3 Y3c aE q ⟨bw2, kAF2, kAS2, kE2, pV2, pY2, laE⟩
                case key =>
                 rintro Y1 Y1c Y2 Y2c aD r ⟨bw, kAF, kAS, kD, pY, laD⟩
                 try dsimp only
                 refine wpAnyH_ready (rs := [3, 12]) (by kernel_rfl) (by simp) ?_
                 refine AllReadyH.cons (o := ?oi22) ?hi22 (fun K hK => ?br22) (AllReadyH.cons (o := ?oi23) ?hi23 (fun K hK => ?br23) AllReadyH.nil)
                 case hi22 => (conv => lhs; simp only [List.getElem?_toArray, List.getElem?_cons_zero, List.getElem?_cons_succ]); try exact rfl
                 case hi23 => (conv => lhs; simp only [List.getElem?_toArray, List.getElem?_cons_zero, List.getElem?_cons_succ]); try exact rfl
                 case br22 =>
                  go_simp
                  go_at_call 8
                  refine (toFil_is _ F HsmF.out _ (HFil.out _ (belN B2 bw))).mono ?_
                  rintro e q ⟨_, rfl, hOB, hb⟩
                  have bw2 := bw.trans (hb.mono bw.size)
                  have kAS2 := kAS.below hb kAS.lt
                  have kAF2 := kAF.below hb kAF.lt
                  have kD2 := kD.below hb kD.lt
                  have pY2 := pY.next hb
                  obtain ⟨Y3, Y3c, rfl, hy1⟩ := hOB.fil
                  have pV2 : IsFil q (.agg #[.int .i64 F.sz, .slice Y3 F.xs.length Y3c]) F := ⟨_, _, rfl, hy1⟩
                  clear hOB hy1
                  refine hK.out _ _ (by exact S4 kAS2 kAF2) (fun _ => ?_)
                  clear hK K
                  try simp only [Act.put, List.setIfInBounds_toArray, List.set_cons_zero, List.set_cons_succ]
                  exact key_fwP_1_3_11 Y1 Y1c Y2 Y2c Y3 Y3c aD q ⟨bw2, kAF2, kAS2, kD2, pV2, pY2, laD⟩
                 case br23 =>
                  go_simp
                  refine hK.out _ _ (by exact S4 (kAS.alloc (.cells #[.int .i64 0, .slice none 0 0] 34)) (kAF.alloc (.cells #[.int .i64 0, .slice none 0 0] 34))) (fun _ => ?_)
                  clear hK K
                  try simp only [Act.put, List.setIfInBounds_toArray, List.set_cons_zero, List.set_cons_succ]
                  refine foldH ?_
                  intro q hq
                  obtain ⟨aE, ha⟩ : ∃ g, r.heap.size = g := ⟨_, rfl⟩
                  rw [ha]
                  have bw2 : Below w2.heap.size w2 q := by rw [hq]; exact belA bw _
                  have kAS2 : Blk q _ _ _ := hq ▸ kAS.alloc (.cells #[.int .i64 0, .slice none 0 0] 34)
                  have kAF2 : Blk q _ _ _ := hq ▸ kAF.alloc (.cells #[.int .i64 0, .slice none 0 0] 34)
                  have kD2 : Blk q _ _ _ := hq ▸ kD.alloc (.cells #[.int .i64 0, .slice none 0 0] 34)
                  have pY2 : IsSto q (.agg #[.slice Y1 S.bs.length Y1c, .slice Y2 S.ds.length Y2c]) S := by rw [hq]; exact pY.next (belA (bel0 _) _)
                  have kE2 : Blk q aE 34 #[.int .i64 0, .slice none 0 0] := by rw [hq, ← ha]; exact Blk.new' _ _ _ _ rfl
                  have laE : w2.heap.size ≤ aE := by rw [← ha]; exact bw.size
                  exact key_fwP_1_11_12 Y1 Y1c Y2 Y2c aD aE q ⟨bw2, kAF2, kAS2, kD2, kE2, pY2, laD, laE⟩
               case key =>
                rintro Y1 Y1c Y2 Y2c aE r ⟨bw, kAF, kAS, kE, pY, laE⟩
                try dsimp only
                refine wpAnyH_ready (rs := [3, 11]) (by kernel_rfl) (by simp) ?_
                refine AllReadyH.cons (o := ?oi24) ?hi24 (fun K hK => ?br24) (AllReadyH.cons (o := ?oi25) ?hi25 (fun K hK => ?br25) AllReadyH.nil)
                case hi24 => (conv => lhs; simp only [List.getElem?_toArray, List.getElem?_cons_zero, List.getElem?_cons_succ]); try exact rfl
                case hi25 => (conv => lhs; simp only [List.getElem?_toArray, List.getElem?_cons_zero, List.getElem?_cons_succ]); try exact rfl
                case br24 =>
                 go_simp
                 go_at_call 8
                 refine (toFil_is _ F HsmF.out _ (HFil.out _ (belN B2 bw))).mono ?_
                 rintro e q ⟨_, rfl, hOB, hb⟩
                 have bw2 := bw.trans (hb.mono bw.size)
                 have kAS2 := kAS.below hb kAS.lt
                 have kAF2 := kAF.below hb kAF.lt
                 have kE2 := kE.below hb kE.lt
                 have pY2 := pY.next hb
                 obtain ⟨Y3, Y3c, rfl, hy1⟩ := hOB.fil
                 have pV2 : IsFil q (.agg #[.int .i64 F.sz, .slice Y3 F.xs.length Y3c]) F := ⟨_, _, rfl, hy1⟩
                 clear hOB hy1
                 refine hK.out _ _ (by exact S4 kAS2 kAF2) (fun _ => ?_)
                 clear hK K
                 try simp only [Act.put, List.setIfInBounds_toArray, List.set_cons_zero, List.set_cons_succ]
                 exact key_fwP_1_3_12 Y1 Y1c Y2 Y2c Y3 Y3c aE q ⟨bw2, kAF2, kAS2, kE2, pV2, pY2, laE⟩
                case br25 =>
                 go_simp
                 refine hK.out _ _ (by exact S4 (kAS.alloc (.cells #[.slice none 0 0, .slice none 0 0] 31)) (kAF.alloc (.cells #[.slice none 0 0, .slice none 0 0] 31))) (fun _ => ?_)
                 clear hK K
                 try simp only [Act.put, List.setIfInBounds_toArray, List.set_cons_zero, List.set_cons_succ]
                 refine foldH ?_
                 intro q hq
                 obtain ⟨aD, ha⟩ : ∃ g, r.heap.size = g := ⟨_, rfl⟩
                 rw [ha]
                 have bw2 : Below w2.heap.size w2 q := by rw [hq]; exact belA bw _
                 have kAS2 : Blk q _ _ _ := hq ▸ kAS.alloc (.cells #[.slice none 0 0, .slice none 0 0] 31)
                 have kAF2 : Blk q _ _ _ := hq ▸ kAF.alloc (.cells #[.slice none 0 0, .slice none 0 0] 31)
                 have kE2 : Blk q _ _ _ := hq ▸ kE.alloc (.cells #[.slice none 0 0, .slice none 0 0] 31)
                 have pY2 : IsSto q (.agg #[.slice Y1 S.bs.length Y1c, .slice Y2 S.ds.length Y2c]) S := by rw [hq]; exact pY.next (belA (bel0 _) _)
                 have kD2 : Blk q aD 31 #[.slice none 0 0, .slice none 0 0] := by rw [hq, ← ha]; exact Blk.new' _ _ _ _ rfl
                 have laD : w2.heap.size ≤ aD := by rw [← ha]; exact bw.size
                 exact key_fwP_1_11_12 Y1 Y1c Y2 Y2c aD aE q ⟨bw2, kAF2, kAS2, kD2, kE2, pY2, laD, laE⟩
              case key =>
               rintro aD aE r ⟨bw, kAF, kAS, kD, kE, laD, laE⟩
               try dsimp only
               refine wpAnyH_ready (rs := [1]) (by kernel_rfl) (by simp) ?_
               refine AllReadyH.cons (o := ?oi26) ?hi26 (fun K hK => ?br26) AllReadyH.nil
               case hi26 => (conv => lhs; simp only [List.getElem?_toArray, List.getElem?_cons_zero, List.getElem?_cons_succ]); try exact rfl
               case br26 =>
                go_simp
                go_at_call 7
                refine (toStore_is _ S HsmS.out _ (HSto.out _ (belN B2 bw))).mono ?_
                rintro e q ⟨_, rfl, hOA, hb⟩
                have bw2 := bw.trans (hb.mono bw.size)
                have kAS2 := kAS.below hb kAS.lt
                have kAF2 := kAF.below hb kAF.lt
                have kD2 := kD.below hb kD.lt
                have kE2 := kE.below hb kE.lt
                obtain ⟨Y1, Y1c, Y2, Y2c, rfl, hy1, hy2⟩ := hOA.sto
                have pY2 : IsSto q (.agg #[.slice Y1 S.bs.length Y1c, .slice Y2 S.ds.length Y2c]) S := ⟨_, _, _, _, rfl, hy1, hy2⟩
                clear hOA hy1 hy2
                refine hK.out _ _ (by exact S4 kAS2 kAF2) (fun _ => ?_)
                clear hK K
                try simp only [Act.put, List.setIfInBounds_toArray, List.set_cons_zero, List.set_cons_succ]
                exact key_fwP_1_11_12 Y1 Y1c Y2 Y2c aD aE q ⟨bw2, kAF2, kAS2, kD2, kE2, pY2, laD, laE⟩
             case key =>
              rintro P1 P1c P2 P2c P3 P3c Y1 Y1c Y2 Y2c Y3 Y3c lp r ⟨bw, kAF, kAS, pF, pS, lpf⟩
              try dsimp only
              refine wpAnyH_ready (rs := [11, 12]) (by kernel_rfl) (by simp) ?_
              refine AllReadyH.cons (o := ?oi27) ?hi27 (fun K hK => ?br27) (AllReadyH.cons (o := ?oi28) ?hi28 (fun K hK => ?br28) AllReadyH.nil)
              case hi27 => (conv => lhs; simp only [List.getElem?_toArray, List.getElem?_cons_zero, List.getElem?_cons_succ]); try exact rfl
              case hi28 => (conv => lhs; simp only [List.getElem?_toArray, List.getElem?_cons_zero, List.getElem?_cons_succ]); try exact rfl
              case br27 =>
               go_simp
               refine hK.out _ _ (by exact S4 (kAS.alloc (.cells #[.slice none 0 0, .slice none 0 0] 31)) (kAF.alloc (.cells #[.slice none 0 0, .slice none 0 0] 31))) (fun _ => ?_)
               clear hK K
               try simp only [Act.put, List.setIfInBounds_toArray, List.set_cons_zero, List.set_cons_succ]
               refine foldH ?_
               intro q hq
               obtain ⟨aD, ha⟩ : ∃ g, r.heap.size = g := ⟨_, rfl⟩
               rw [ha]
               have bw2 : Below w2.heap.size w2 q := by rw [hq]; exact belA bw _
               have kAS2 : Blk q _ _ _ := hq ▸ kAS.alloc (.cells #[.slice none 0 0, .slice none 0 0] 31)
               have kAF2 : Blk q _ _ _ := hq ▸ kAF.alloc (.cells #[.slice none 0 0, .slice none 0 0] 31)
               have pS2 : OwnSto lp (.agg #[.slice P1 S'.bs.length P1c, .slice P2 S'.ds.length P2c]) S' q := by rw [hq]; exact pS.next (belA (bel0 _) _)
               have pF2 : OwnFil lp (.agg #[.int .i64 F'.sz, .slice P3 F'.xs.length P3c]) F' q := by rw [hq]; exact pF.next (belA (bel0 _) _)
               have kD2 : Blk q aD 31 #[.slice none 0 0, .slice none 0 0] := by rw [hq, ← ha]; exact Blk.new' _ _ _ _ rfl
               have laD : w2.heap.size ≤ aD := by rw [← ha]; exact bw.size
               exact key_fwP_1_3_6_11 P1 P1c P2 P2c P3 P3c Y1 Y1c Y2 Y2c Y3 Y3c aD lp q ⟨bw2, kAF2, kAS2, kD2, pF2, pS2, laD, lpf⟩
              case br28 =>
               go_simp
               refine hK.out _ _ (by exact S4 (kAS.alloc (.cells #[.int .i64 0, .slice none 0 0] 34)) (kAF.alloc (.cells #[.int .i64 0, .slice none 0 0] 34))) (fun _ => ?_)
               clear hK K
               try simp only [Act.put, List.setIfInBounds_toArray, List.set_cons_zero, List.set_cons_succ]
               refine foldH ?_
               intro q hq
               obtain ⟨aE, ha⟩ : ∃ g, r.heap.size = g := ⟨_, rfl⟩
               rw [ha]
               have bw2 : Below w2.heap.size w2 q := by rw [hq]; exact belA bw _
               have kAS2 : Blk q _ _ _ := hq ▸ kAS.alloc (.cells #[.int .i64 0, .slice none 0 0] 34)
               have kAF2 : Blk q _ _ _ := hq ▸ kAF.alloc (.cells #[.int .i64 0, .slice none 0 0] 34)
               have pS2 : OwnSto lp (.agg #[.slice P1 S'.bs.length P1c, .slice P2 S'.ds.length P2c]) S' q := by rw [hq]; exact pS.next (belA (bel0 _) _)
               have pF2 : OwnFil lp (.agg #[.int .i64 F'.sz, .slice P3 F'.xs.length P3c]) F' q := by rw [hq]; exact pF.next (belA (bel0 _) _)
               have kE2 : Blk q aE 34 #[.int .i64 0, .slice none 0 0] := by rw [hq, ← ha]; exact Blk.new' _ _ _ _ rfl
               have laE : w2.heap.size ≤ aE := by rw [← ha]; exact bw.size
               exact key_fwP_1_3_6_12 P1 P1c P2 P2c P3 P3c Y1 Y1c Y2 Y2c Y3 Y3c aE lp q ⟨bw2, kAF2, kAS2, kE2, pF2, pS2, laE, lpf⟩
            case key =>
             rintro Y1 Y1c Y2 Y2c Y3 Y3c aD r ⟨bw, kAF, kAS, kD, pV, pY, laD⟩
             try dsimp only
             refine wpAnyH_ready (rs := [6, 12]) (by kernel_rfl) (by simp) ?_
             refine AllReadyH.cons (o := ?oi29) ?hi29 (fun K hK => ?br29) (AllReadyH.cons (o := ?oi30) ?hi30 (fun K hK => ?br30) AllReadyH.nil)
             case hi29 => (conv => lhs; simp only [List.getElem?_toArray, List.getElem?_cons_zero, List.getElem?_cons_succ]); try exact rfl
             case hi30 => (conv => lhs; simp only [List.getElem?_toArray, List.getElem?_cons_zero, List.getElem?_cons_succ]); try exact rfl
             case br29 =>
              go_simp
              go_at_call 6
              refine (filWrite_spec _ _ S F HsmS.out HsmF.out off data hd2 HP.out _ pY pV).mono ?_
              rintro e q ⟨_, _, rfl, hCS, hCF, hb⟩
              have bw2 := bw.trans (hb.mono bw.size)
              have kAS2 := kAS.below hb kAS.lt
              have kAF2 := kAF.below hb kAF.lt
              have kD2 := kD.below hb kD.lt
              obtain ⟨lp, hlp⟩ : ∃ l, r.heap.size = l := ⟨_, rfl⟩
              rw [hlp] at hCS hCF
              have lpf : w.heap.size ≤ lp := by rw [← hlp]; exact Nat.le_trans B2.size bw.size
              obtain ⟨_, _, rfl, oa, ob⟩ := hCS
              obtain ⟨P1, P1c, rfl, _, _, _⟩ := own_vals oa
              obtain ⟨P2, P2c, rfl, _, _, _⟩ := own_vals ob
              obtain ⟨_, rfl, oc⟩ := hCF
              obtain ⟨P3, P3c, rfl, _, _, _⟩ := own_vals oc
              have pS2 : OwnSto lp (.agg #[.slice P1 S'.bs.length P1c, .slice P2 S'.ds.length P2c]) S' q := ⟨_, _, rfl, oa, ob⟩
              have pF2 : OwnFil lp (.agg #[.int .i64 F'.sz, .slice P3 F'.xs.length P3c]) F' q := ⟨_, rfl, oc⟩
              clear oa ob oc hlp
              refine hK.out _ _ (by exact S4 kAS2 kAF2) (fun _ => ?_)
              clear hK K
              try simp only [Act.put, List.setIfInBounds_toArray, List.set_cons_zero, List.set_cons_succ]
              refine wpAnyH_take (i := 7) (oi := ?oi31) (v := ?v31) ?hi31 ?hs31 ?hf31 ?hr31 ?hQ31 ?hy31 ?hS31 ?hrest31
              case hi31 => (conv => lhs; simp only [List.getElem?_toArray, List.getElem?_cons_zero, List.getElem?_cons_succ]); try exact rfl
              case hs31 => kernel_rfl
              case hf31 => kernel_rfl
              case hr31 => kernel_rfl
              case hQ31 => exact fun _ _ _ h => h
              case hS31 => exact S4 kAS2 kAF2
              case hy31 => refine Or.inl ⟨by rfl, ?_⟩; intro w hSw; (try dsimp only at hSw); go_simp; (try with_reducible rfl)
              simp only [Act.put, List.setIfInBounds_toArray, List.set_cons_zero, List.set_cons_succ]
              refine wpAnyH_take (i := 8) (oi := ?oi32) (v := ?v32) ?hi32 ?hs32 ?hf32 ?hr32 ?hQ32 ?hy32 ?hS32 ?hrest32
              case hi32 => (conv => lhs; simp only [List.getElem?_toArray, List.getElem?_cons_zero, List.getElem?_cons_succ]); try exact rfl
              case hs32 => kernel_rfl
              case hf32 => kernel_rfl
              case hr32 => kernel_rfl
              case hQ32 => exact fun _ _ _ h => h
              case hS32 => exact S4 kAS2 kAF2
              case hy32 => refine Or.inl ⟨by rfl, ?_⟩; intro w hSw; (try dsimp only at hSw); go_simp; (try with_reducible rfl)
              simp only [Act.put, List.setIfInBounds_toArray, List.set_cons_zero, List.set_cons_succ]
              refine wpAnyH_take (i := 9) (oi := ?oi33) (v := ?v33) ?hi33 ?hs33 ?hf33 ?hr33 ?hQ33 ?hy33 ?hS33 ?hrest33
              case hi33 => (conv => lhs; simp only [List.getElem?_toArray, List.getElem?_cons_zero, List.getElem?_cons_succ]); try exact rfl
              case hs33 => kernel_rfl
              case hf33 => kernel_rfl
              case hr33 => kernel_rfl
              case hQ33 => exact fun _ _ _ h => h
              case hS33 => exact S4 kAS2 kAF2
              case hy33 => refine Or.inl ⟨by rfl, ?_⟩; intro w hSw; (try dsimp only at hSw); go_simp; (try with_reducible rfl)
              simp only [Act.put, List.setIfInBounds_toArray, List.set_cons_zero, List.set_cons_succ]
              refine wpAnyH_take (i := 10) (oi := ?oi34) (v := ?v34) ?hi34 ?hs34 ?hf34 ?hr34 ?hQ34 ?hy34 ?hS34 ?hrest34
              case hi34 => (conv => lhs; simp only [List.getElem?_toArray, List.getElem?_cons_zero, List.getElem?_cons_succ]); try exact rfl
              case hs34 => kernel_rfl
              case hf34 => kernel_rfl
              case hr34 => kernel_rfl
              case hQ34 => exact fun _ _ _ h => h
              case hS34 => exact S4 kAS2 kAF2
              case hy34 => refine Or.inl ⟨by rfl, ?_⟩; intro w hSw; (try dsimp only at hSw); go_simp; (try with_reducible rfl)
              simp only [Act.put, List.setIfInBounds_toArray, List.set_cons_zero, List.set_cons_succ]
              exact key_fwP_1_3_6_11 P1 P1c P2 P2c P3 P3c Y1 Y1c Y2 Y2c Y3 Y3c aD lp q ⟨bw2, kAF2, kAS2, kD2, pF2, pS2, laD, lpf⟩
             case br30 =>
              go_simp
              refine hK.out _ _ (by exact S4 (kAS.alloc (.cells #[.int .i64 0, .slice none 0 0] 34)) (kAF.alloc (.cells #[.int .i64 0, .slice none 0 0] 34))) (fun _ => ?_)
              clear hK K
              try simp only [Act.put, List.setIfInBounds_toArray, List.set_cons_zero, List.set_cons_succ]
              refine foldH ?_
              intro q hq
              obtain ⟨aE, ha⟩ : ∃ g, r.heap.size = g := ⟨_, rfl⟩
              rw [ha]
              have bw2 : Below w2.heap.size w2 q := by rw [hq]; exact belA bw _
              have kAS2 : Blk q _ _ _ := hq ▸ kAS.alloc (.cells #[.int .i64 0, .slice none 0 0] 34)
              have kAF2 : Blk q _ _ _ := hq ▸ kAF.alloc (.cells #[.int .i64 0, .slice none 0 0] 34)
              have kD2 : Blk q _ _ _ := hq ▸ kD.alloc (.cells #[.int .i64 0, .slice none 0 0] 34)
              have pY2 : IsSto q (.agg #[.slice Y1 S.bs.length Y1c, .slice Y2 S.ds.length Y2c]) S := by rw [hq]; exact pY.next (belA (bel0 _) _)
              have pV2 : IsFil q (.agg #[.int .i64 F.sz, .slice Y3 F.xs.length Y3c]) F := by rw [hq]; exact pV.next (belA (bel0 _) _)
              have kE2 : Blk q aE 34 #[.int .i64 0, .slice none 0 0] := by rw [hq, ← ha]; exact Blk.new' _ _ _ _ rfl
              have laE : w2.heap.size ≤ aE := by rw [← ha]; exact bw.size
              exact key_fwP_1_3_11_12 Y1 Y1c Y2 Y2c Y3 Y3c aD aE q ⟨bw2, kAF2, kAS2, kD2, kE2, pV2, pY2, laD, laE⟩
           case key =>
            rintro Y1 Y1c Y2 Y2c Y3 Y3c aE r ⟨bw, kAF, kAS, kE, pV, pY, laE⟩
            try dsimp only
            refine wpAnyH_ready (rs := [6, 11]) (by kernel_rfl) (by simp) ?_
            refine AllReadyH.cons (o := ?oi35) ?hi35 (fun K hK => ?br35) (AllReadyH.cons (o := ?oi36) ?hi36 (fun K hK => ?br36) AllReadyH.nil)
            case hi35 => (conv => lhs; simp only [List.getElem?_toArray, List.getElem?_cons_zero, List.getElem?_cons_succ]); try exact rfl
            case hi36 => (conv => lhs; simp only [List.getElem?_toArray, List.getElem?_cons_zero, List.getElem?_cons_succ]); try exact rfl
            case br35 =>
             go_simp
             go_at_call 6
             refine (filWrite_spec _ _ S F HsmS.out HsmF.out off data hd2 HP.out _ pY pV).mono ?_
             rintro e q ⟨_, _, rfl, hCS, hCF, hb⟩
             have bw2 := bw.trans (hb.mono bw.size)
             have kAS2 := kAS.below hb kAS.lt
             have kAF2 := kAF.below hb kAF.lt
             have kE2 := kE.below hb kE.lt
             obtain ⟨lp, hlp⟩ : ∃ l, r.heap.size = l := ⟨_, rfl⟩
             rw [hlp] at hCS hCF
             have lpf : w.heap.size ≤ lp := by rw [← hlp]; exact Nat.le_trans B2.size bw.size
             obtain ⟨_, _, rfl, oa, ob⟩ := hCS
             obtain ⟨P1, P1c, rfl, _, _, _⟩ := own_vals oa
             obtain ⟨P2, P2c, rfl, _, _, _⟩ := own_vals ob
             obtain ⟨_, rfl, oc⟩ := hCF
             obtain ⟨P3, P3c, rfl, _, _, _⟩ := own_vals oc
             have pS2 : OwnSto lp (.agg #[.slice P1 S'.bs.length P1c, .slice P2 S'.ds.length P2c]) S' q := ⟨_, _, rfl, oa, ob⟩
             have pF2 : OwnFil lp (.agg #[.int .i64 F'.sz, .slice P3 F'.xs.length P3c]) F' q := ⟨_, rfl, oc⟩
             clear oa ob oc hlp
             refine hK.out _ _ (by exact S4 kAS2 kAF2) (fun _ => ?_)
             clear hK K
             try simp only [Act.put, List.setIfInBounds_toArray, List.set_cons_zero, List.set_cons_succ]
             refine wpAnyH_take (i := 7) (oi := ?oi37) (v := ?v37) ?hi37 ?hs37 ?hf37 ?hr37 ?hQ37 ?hy37 ?hS37 ?hrest37
             case hi37 => (conv => lhs; simp only [List.getElem?_toArray, List.getElem?_cons_zero, List.getElem?_cons_succ]); try exact rfl
             case hs37 => kernel_rfl
             case hf37 => kernel_rfl
             case hr37 => kernel_rfl
             case hQ37 => exact fun _ _ _ h => h
             case hS37 => exact S4 kAS2 kAF2
             case hy37 => refine Or.inl ⟨by rfl, ?_⟩; intro w hSw; (try dsimp only at hSw); go_simp; (try with_reducible rfl)
             simp only [Act.put, List.setIfInBounds_toArray, List.set_cons_zero, List.set_cons_succ]
             refine wpAnyH_take (i := 8) (oi := ?oi38) (v := ?v38) ?hi38 ?hs38 ?hf38 ?hr38 ?hQ38 ?hy38 ?hS38 ?hrest38
             case hi38 => (conv => lhs; simp only [List.getElem?_toArray, List.getElem?_cons_zero, List.getElem?_cons_succ]); try exact rfl
             case hs38 => kernel_rfl
             case hf38 => kernel_rfl
             case hr38 => kernel_rfl
             case hQ38 => exact fun _ _ _ h => h
             case hS38 => exact S4 kAS2 kAF2
             case hy38 => refine Or.inl ⟨by rfl, ?_⟩; intro w hSw; (try dsimp only at hSw); go_simp; (try with_reducible rfl)
             simp only [Act.put, List.setIfInBounds_toArray, List.set_cons_zero, List.set_cons_succ]
             refine wpAnyH_take (i := 9) (oi := ?oi39) (v := ?v39) ?hi39 ?hs39 ?hf39 ?hr39 ?hQ39 ?hy39 ?hS39 ?hrest39
             case hi39 => (conv => lhs; simp only [List.getElem?_toArray, List.getElem?_cons_zero, List.getElem?_cons_succ]); try exact rfl
             case hs39 => kernel_rfl
             case hf39 => kernel_rfl
             case hr39 => kernel_rfl
             case hQ39 => exact fun _ _ _ h => h
             case hS39 => exact S4 kAS2 kAF2
             case hy39 => refine Or.inl ⟨by rfl, ?_⟩; intro w hSw; (try dsimp only at hSw); go_simp; (try with_reducible rfl)
             simp only [Act.put, List.setIfInBounds_toArray, List.set_cons_zero, List.set_cons_succ]
             refine wpAnyH_take (i := 10) (oi := ?oi40) (v := ?v40) ?hi40 ?hs40 ?hf40 ?hr40 ?hQ40 ?hy40 ?hS40 ?hrest40
             case hi40 => (conv => lhs; simp only [List.getElem?_toArray, List.getElem?_cons_zero, List.getElem?_cons_succ]); try exact rfl
             case hs40 => kernel_rfl
             case hf40 => kernel_rfl
             case hr40 => kernel_rfl
             case hQ40 => exact fun _ _ _ h => h
             case hS40 => exact S4 kAS2 kAF2
             case hy40 => refine Or.inl ⟨by rfl, ?_⟩; intro w hSw; (try dsimp only at hSw); go_simp; (try with_reducible rfl)
             simp only [Act.put, List.setIfInBounds_toArray, List.set_cons_zero, List.set_cons_succ]
             exact key_fwP_1_3_6_12 P1 P1c P2 P2c P3 P3c Y1 Y1c Y2 Y2c Y3 Y3c aE lp q ⟨bw2, kAF2, kAS2, kE2, pF2, pS2, laE, lpf⟩
            case br36 =>
             go_simp
             refine hK.out _ _ (by exact S4 (kAS.alloc (.cells #[.slice none 0 0, .slice none 0 0] 31)) (kAF.alloc (.cells #[.slice none 0 0, .slice none 0 0] 31))) (fun _ => ?_)
             clear hK K
             try simp only [Act.put, List.setIfInBounds_toArray, List.set_cons_zero, List.set_cons_succ]
             refine foldH ?_
             intro q hq
             obtain ⟨aD, ha⟩ : ∃ g, r.heap.size = g := ⟨_, rfl⟩
             rw [ha]
             have bw2 : Below w2.heap.size w2 q := by rw [hq]; exact belA bw _
             have kAS2 : Blk q _ _ _ := hq ▸ kAS.alloc (.cells #[.slice none 0 0, .slice none 0 0] 31)
             have kAF2 : Blk q _ _ _ := hq ▸ kAF.alloc (.cells #[.slice none 0 0, .slice none 0 0] 31)
             have kE2 : Blk q _ _ _ := hq ▸ kE.alloc (.cells #[.slice none 0 0, .slice none 0 0] 31)
             have pY2 : IsSto q (.agg #[.slice Y1 S.bs.length Y1c, .slice Y2 S.ds.length Y2c]) S := by rw [hq]; exact pY.next (belA (bel0 _) _)
             have pV2 : IsFil q (.agg #[.int .i64 F.sz, .slice Y3 F.xs.length Y3c]) F := by rw [hq]; exact pV.next (belA (bel0 _) _)
             have kD2 : Blk q aD 31 #[.slice none 0 0, .slice none 0 0] := by rw [hq, ← ha]; exact Blk.new' _ _ _ _ rfl
             have laD : w2.heap.size ≤ aD := by rw [← ha]; exact bw.size
             exact key_fwP_1_3_11_12 Y1 Y1c Y2 Y2c Y3 Y3c aD aE q ⟨bw2, kAF2, kAS2, kD2, kE2, pV2, pY2, laD, laE⟩
          case key =>
           rintro Y1 Y1c Y2 Y2c aD aE r ⟨bw, kAF, kAS, kD, kE, pY, laD, laE⟩
           try dsimp only
           refine wpAnyH_ready (rs := [3]) (by kernel_rfl) (by simp) ?_
           refine AllReadyH.cons (o := ?oi41) ?hi41 (fun K hK => ?br41) AllReadyH.nil
           case hi41 => (conv => lhs; simp only [List.getElem?_toArray, List.getElem?_cons_zero, List.getElem?_cons_succ]); try exact rfl
           case br41 =>
            go_simp
            go_at_call 8
            refine (toFil_is _ F HsmF.out _ (HFil.out _ (belN B2 bw))).mono ?_
            rintro e q ⟨_, rfl, hOB, hb⟩
            have bw2 := bw.trans (hb.mono bw.size)
            have kAS2 := kAS.below hb kAS.lt
            have kAF2 := kAF.below hb kAF.lt
            have kD2 := kD.below hb kD.lt
            have kE2 := kE.below hb kE.lt
            have pY2 := pY.next hb
            obtain ⟨Y3, Y3c, rfl, hy1⟩ := hOB.fil
            have pV2 : IsFil q (.agg #[.int .i64 F.sz, .slice Y3 F.xs.length Y3c]) F := ⟨_, _, rfl, hy1⟩
            clear hOB hy1
            refine hK.out _ _ (by exact S4 kAS2 kAF2) (fun _ => ?_)
            clear hK K
            try simp only [Act.put, List.setIfInBounds_toArray, List.set_cons_zero, List.set_cons_succ]
            exact key_fwP_1_3_11_12 Y1 Y1c Y2 Y2c Y3 Y3c aD aE q ⟨bw2, kAF2, kAS2, kD2, kE2, pV2, pY2, laD, laE⟩
         case key =>
          rintro P1 P1c P2 P2c P3 P3c Y1 Y1c Y2 Y2c Y3 Y3c aD lp r ⟨bw, kAF, kAS, kD, pF, pS, laD, lpf⟩
          try dsimp only
          refine wpAnyH_ready (rs := [12]) (by kernel_rfl) (by simp) ?_
          refine AllReadyH.cons (o := ?oi42) ?hi42 (fun K hK => ?br42) AllReadyH.nil
          case hi42 => (conv => lhs; simp only [List.getElem?_toArray, List.getElem?_cons_zero, List.getElem?_cons_succ]); try exact rfl
          case br42 =>
           go_simp
           refine hK.out _ _ (by exact S4 (kAS.alloc (.cells #[.int .i64 0, .slice none 0 0] 34)) (kAF.alloc (.cells #[.int .i64 0, .slice none 0 0] 34))) (fun _ => ?_)
           clear hK K
           try simp only [Act.put, List.setIfInBounds_toArray, List.set_cons_zero, List.set_cons_succ]
           refine foldH ?_
           intro q hq
           obtain ⟨aE, ha⟩ : ∃ g, r.heap.size = g := ⟨_, rfl⟩
           rw [ha]
           have bw2 : Below w2.heap.size w2 q := by rw [hq]; exact belA bw _
           have kAS2 : Blk q _ _ _ := hq ▸ kAS.alloc (.cells #[.int .i64 0, .slice none 0 0] 34)
           have kAF2 : Blk q _ _ _ := hq ▸ kAF.alloc (.cells #[.int .i64 0, .slice none 0 0] 34)
           have kD2 : Blk q _ _ _ := hq ▸ kD.alloc (.cells #[.int .i64 0, .slice none 0 0] 34)
           have pS2 : OwnSto lp (.agg #[.slice P1 S'.bs.length P1c, .slice P2 S'.ds.length P2c]) S' q := by rw [hq]; exact pS.next (belA (bel0 _) _)
           have pF2 : OwnFil lp (.agg #[.int .i64 F'.sz, .slice P3 F'.xs.length P3c]) F' q := by rw [hq]; exact pF.next (belA (bel0 _) _)
           have kE2 : Blk q aE 34 #[.int .i64 0, .slice none 0 0] := by rw [hq, ← ha]; exact Blk.new' _ _ _ _ rfl
           have laE : w2.heap.size ≤ aE := by rw [← ha]; exact bw.size
           exact key_fwP_1_3_6_11_12 P1 P1c P2 P2c P3 P3c Y1 Y1c Y2 Y2c Y3 Y3c aD aE lp q ⟨bw2, kAF2, kAS2, kD2, kE2, pF2, pS2, laD, laE, lpf⟩
        case key =>
         rintro P1 P1c P2 P2c P3 P3c Y1 Y1c Y2 Y2c Y3 Y3c aE lp r ⟨bw, kAF, kAS, kE, pF, pS, laE, lpf⟩
         try dsimp only
         refine wpAnyH_ready (rs := [11]) (by kernel_rfl) (by simp) ?_
         refine AllReadyH.cons (o := ?oi43) ?hi43 (fun K hK => ?br43) AllReadyH.nil
         case hi43 => (conv => lhs; simp only [List.getElem?_toArray, List.getElem?_cons_zero, List.getElem?_cons_succ]); try exact rfl
         case br43 =>
          go_simp
          refine hK.out _ _ (by exact S4 (kAS.alloc (.cells #[.slice none 0 0, .slice none 0 0] 31)) (kAF.alloc (.cells #[.slice none 0 0, .slice none 0 0] 31))) (fun _ => ?_)
          clear hK K
          try simp only [Act.put, List.setIfInBounds_toArray, List.set_cons_zero, List.set_cons_succ]
          refine foldH ?_
          intro q hq
          obtain ⟨aD, ha⟩ : ∃ g, r.heap.size = g := ⟨_, rfl⟩
          rw [ha]
          have bw2 : Below w2.heap.size w2 q := by rw [hq]; exact belA bw _
          have kAS2 : Blk q _ _ _ := hq ▸ kAS.alloc (.cells #[.slice none 0 0, .slice none 0 0] 31)
          have kAF2 : Blk q _ _ _ := hq ▸ kAF.alloc (.cells #[.slice none 0 0, .slice none 0 0] 31)
          have kE2 : Blk q _ _ _ := hq ▸ kE.alloc (.cells #[.slice none 0 0, .slice none 0 0] 31)
          have pS2 : OwnSto lp (.agg #[.slice P1 S'.bs.length P1c, .slice P2 S'.ds.length P2c]) S' q := by rw [hq]; exact pS.next (belA (bel0 _) _)
          have pF2 : OwnFil lp (.agg #[.int .i64 F'.sz, .slice P3 F'.xs.length P3c]) F' q := by rw [hq]; exact pF.next (belA (bel0 _) _)
          have kD2 : Blk q aD 31 #[.slice none 0 0, .slice none 0 0] := by rw [hq, ← ha]; exact Blk.new' _ _ _ _ rfl
          have laD : w2.heap.size ≤ aD := by rw [← ha]; exact bw.size
          exact key_fwP_1_3_6_11_12 P1 P1c P2 P2c P3 P3c Y1 Y1c Y2 Y2c Y3 Y3c aD aE lp q ⟨bw2, kAF2, kAS2, kD2, kE2, pF2, pS2, laD, laE, lpf⟩
       case key =>
        rintro Y1 Y1c Y2 Y2c Y3 Y3c aD aE r ⟨bw, kAF, kAS, kD, kE, pV, pY, laD, laE⟩
        try dsimp only
        refine wpAnyH_ready (rs := [6]) (by kernel_rfl) (by simp) ?_
        refine AllReadyH.cons (o := ?oi44) ?hi44 (fun K hK => ?br44) AllReadyH.nil
        case hi44 => (conv => lhs; simp only [List.getElem?_toArray, List.getElem?_cons_zero, List.getElem?_cons_succ]); try exact rfl
        case br44 =>
         go_simp
         go_at_call 6
         refine (filWrite_spec _ _ S F HsmS.out HsmF.out off data hd2 HP.out _ pY pV).mono ?_
         rintro e q ⟨_, _, rfl, hCS, hCF, hb⟩
         have bw2 := bw.trans (hb.mono bw.size)
         have kAS2 := kAS.below hb kAS.lt
         have kAF2 := kAF.below hb kAF.lt
         have kD2 := kD.below hb kD.lt
         have kE2 := kE.below hb kE.lt
         obtain ⟨lp, hlp⟩ : ∃ l, r.heap.size = l := ⟨_, rfl⟩
         rw [hlp] at hCS hCF
         have lpf : w.heap.size ≤ lp := by rw [← hlp]; exact Nat.le_trans B2.size bw.size
         obtain ⟨_, _, rfl, oa, ob⟩ := hCS
         obtain ⟨P1, P1c, rfl, _, _, _⟩ := own_vals oa
         obtain ⟨P2, P2c, rfl, _, _, _⟩ := own_vals ob
         obtain ⟨_, rfl, oc⟩ := hCF
         obtain ⟨P3, P3c, rfl, _, _, _⟩ := own_vals oc
         have pS2 : OwnSto lp (.agg #[.slice P1 S'.bs.length P1c, .slice P2 S'.ds.length P2c]) S' q := ⟨_, _, rfl, oa, ob⟩
         have pF2 : OwnFil lp (.agg #[.int .i64 F'.sz, .slice P3 F'.xs.length P3c]) F' q := ⟨_, rfl, oc⟩
         clear oa ob oc hlp
         refine hK.out _ _ (by exact S4 kAS2 kAF2) (fun _ => ?_)
         clear hK K
         try simp only [Act.put, List.setIfInBounds_toArray, List.set_cons_zero, List.set_cons_succ]
         refine wpAnyH_take (i := 7) (oi := ?oi45) (v := ?v45) ?hi45 ?hs45 ?hf45 ?hr45 ?hQ45 ?hy45 ?hS45 ?hrest45
         case hi45 => (conv => lhs; simp only [List.getElem?_toArray, List.getElem?_cons_zero, List.getElem?_cons_succ]); try exact rfl
         case hs45 => kernel_rfl
         case hf45 => kernel_rfl
         case hr45 => kernel_rfl
         case hQ45 => exact fun _ _ _ h => h
         case hS45 => exact S4 kAS2 kAF2
         case hy45 => refine Or.inl ⟨by rfl, ?_⟩; intro w hSw; (try dsimp only at hSw); go_simp; (try with_reducible rfl)
         simp only [Act.put, List.setIfInBounds_toArray, List.set_cons_zero, List.set_cons_succ]
         refine wpAnyH_take (i := 8) (oi := ?oi46) (v := ?v46) ?hi46 ?hs46 ?hf46 ?hr46 ?hQ46 ?hy46 ?hS46 ?hrest46
         case hi46 => (conv => lhs; simp only [List.getElem?_toArray, List.getElem?_cons_zero, List.getElem?_cons_succ]); try exact rfl
         case hs46 => kernel_rfl
         case hf46 => kernel_rfl
         case hr46 => kernel_rfl
         case hQ46 => exact fun _ _ _ h => h
         case hS46 => exact S4 kAS2 kAF2
         case hy46 => refine Or.inl ⟨by rfl, ?_⟩; intro w hSw; (try dsimp only at hSw); go_simp; (try with_reducible rfl)
         simp only [Act.put, List.setIfInBounds_toArray, List.set_cons_zero, List.set_cons_succ]
         refine wpAnyH_take (i := 9) (oi := ?oi47) (v := ?v47) ?hi47 ?hs47 ?hf47 ?hr47 ?hQ47 ?hy47 ?hS47 ?hrest47
         case hi47 => (conv => lhs; simp only [List.getElem?_toArray, List.getElem?_cons_zero, List.getElem?_cons_succ]); try exact rfl
         case hs47 => kernel_rfl
         case hf47 => kernel_rfl
         case hr47 => kernel_rfl
         case hQ47 => exact fun _ _ _ h => h
         case hS47 => exact S4 kAS2 kAF2
         case hy47 => refine Or.inl ⟨by rfl, ?_⟩; intro w hSw; (try dsimp only at hSw); go_simp; (try with_reducible rfl)
         simp only [Act.put, List.setIfInBounds_toArray, List.set_cons_zero, List.set_cons_succ]
         refine wpAnyH_take (i := 10) (oi := ?oi48) (v := ?v48) ?hi48 ?hs48 ?hf48 ?hr48 ?hQ48 ?hy48 ?hS48 ?hrest48
         case hi48 => (conv => lhs; simp only [List.getElem?_toArray, List.getElem?_cons_zero, List.getElem?_cons_succ]); try exact rfl
         case hs48 => kernel_rfl
         case hf48 => kernel_rfl
         case hr48 => kernel_rfl
         case hQ48 => exact fun _ _ _ h => h
         case hS48 => exact S4 kAS2 kAF2
         case hy48 => refine Or.inl ⟨by rfl, ?_⟩; intro w hSw; (try dsimp only at hSw); go_simp; (try with_reducible rfl)
         simp only [Act.put, List.setIfInBounds_toArray, List.set_cons_zero, List.set_cons_succ]
         exact key_fwP_1_3_6_11_12 P1 P1c P2 P2c P3 P3c Y1 Y1c Y2 Y2c Y3 Y3c aD aE lp q ⟨bw2, kAF2, kAS2, kD2, kE2, pF2, pS2, laD, laE, lpf⟩
      case key =>
       rintro P1 P1c P2 P2c P3 P3c Y1 Y1c Y2 Y2c Y3 Y3c aD aE lp r ⟨bw, kAF, kAS, kD, kE, pF, pS, laD, laE, lpf⟩
       try dsimp only
       refine wpAnyH_ready (rs := [13]) (by kernel_rfl) (by simp) ?_
       refine AllReadyH.cons (o := ?oi49) ?hi49 (fun K hK => ?br49) AllReadyH.nil
       case hi49 => (conv => lhs; simp only [List.getElem?_toArray, List.getElem?_cons_zero, List.getElem?_cons_succ]); try exact rfl
       case br49 =>
        have x_0 := kD.get (x := .slice none 0 0) 0 rfl
        have f_0 := kD.frozen 0
        have x_1 := kD.get (x := .slice none 0 0) 1 rfl
        have f_1 := kD.frozen 1
        have lE := kD.lt
        have neAS : w.heap.size ≠ aD := Blk.ne_ kAS kD (by decide)
        have neAF : (w.heap.size + 1) ≠ aD := Blk.ne_ kAF kD (by decide)
        have neE : aE ≠ aD := Blk.ne_ kE kD (by decide)
        go_simp
        refine hK.out _ _ (by exact S4 (((kAS).far (p := ⟨aD, 0, none⟩) neAS (.slice P1 S'.bs.length P1c)).far (p := ⟨aD, 1, none⟩) neAS (.slice P2 S'.ds.length P2c)) (((kAF).far (p := ⟨aD, 0, none⟩) neAF (.slice P1 S'.bs.length P1c)).far (p := ⟨aD, 1, none⟩) neAF (.slice P2 S'.ds.length P2c))) (fun _ => ?_)
        clear hK K x_0 x_1 f_0 f_1 lE
        try simp only [Act.put, List.setIfInBounds_toArray, List.set_cons_zero, List.set_cons_succ]
        refine foldH ?_
        intro q hq
        have bw2 : Below w2.heap.size w2 q := by rw [hq]; exact belC (belC (bw) _ 0 laD (.slice P1 S'.bs.length P1c)) _ 1 laD (.slice P2 S'.ds.length P2c)
        have kAS2 : Blk q w.heap.size 25 #[.slice A1 S.bs.length A1c, .slice A2 S.ds.length A2c] := by rw [hq]; exact ((kAS).far (p := ⟨aD, 0, none⟩) neAS (.slice P1 S'.bs.length P1c)).far (p := ⟨aD, 1, none⟩) neAS (.slice P2 S'.ds.length P2c)
        have kAF2 : Blk q (w.heap.size + 1) 28 #[.int .i64 F.sz, .slice A3 F.xs.length A3c] := by rw [hq]; exact ((kAF).far (p := ⟨aD, 0, none⟩) neAF (.slice P1 S'.bs.length P1c)).far (p := ⟨aD, 1, none⟩) neAF (.slice P2 S'.ds.length P2c)
        have kD2 : Blk q aD 31 #[.slice P1 S'.bs.length P1c, .slice P2 S'.ds.length P2c] := by rw [hq]; exact ((kD.put 0 (.slice P1 S'.bs.length P1c) #[.slice P1 S'.bs.length P1c, .slice none 0 0] rfl).put 1 (.slice P2 S'.ds.length P2c) #[.slice P1 S'.bs.length P1c, .slice P2 S'.ds.length P2c] rfl)
        have kE2 : Blk q aE 34 #[.int .i64 0, .slice none 0 0] := by rw [hq]; exact ((kE).far (p := ⟨aD, 0, none⟩) neE (.slice P1 S'.bs.length P1c)).far (p := ⟨aD, 1, none⟩) neE (.slice P2 S'.ds.length P2c)
        have pS2 : OwnSto lp (.agg #[.slice P1 S'.bs.length P1c, .slice P2 S'.ds.length P2c]) S' q := by rw [hq]; exact ((pS).farS kD 0 (.slice P1 S'.bs.length P1c)).farS (kD.put 0 (.slice P1 S'.bs.length P1c) #[.slice P1 S'.bs.length P1c, .slice none 0 0] rfl) 1 (.slice P2 S'.ds.length P2c)
        have pF2 : OwnFil lp (.agg #[.int .i64 F'.sz, .slice P3 F'.xs.length P3c]) F' q := by rw [hq]; exact ((pF).farS kD 0 (.slice P1 S'.bs.length P1c)).farS (kD.put 0 (.slice P1 S'.bs.length P1c) #[.slice P1 S'.bs.length P1c, .slice none 0 0] rfl) 1 (.slice P2 S'.ds.length P2c)
        exact key_fwP_1_3_6_11_12_13 P1 P1c P2 P2c P3 P3c Y1 Y1c Y2 Y2c Y3 Y3c aD aE lp q ⟨bw2, kAF2, kAS2, kD2, kE2, pF2, pS2, laD, laE, lpf⟩
     case key =>
      rintro P1 P1c P2 P2c P3 P3c Y1 Y1c Y2 Y2c Y3 Y3c aD aE lp r ⟨bw, kAF, kAS, kD, kE, pF, pS, laD, laE, lpf⟩
      try dsimp only
      refine wpAnyH_ready (rs := [14]) (by kernel_rfl) (by simp) ?_
      refine AllReadyH.cons (o := ?oi50) ?hi50 (fun K hK => ?br50) AllReadyH.nil
      case hi50 => (conv => lhs; simp only [List.getElem?_toArray, List.getElem?_cons_zero, List.getElem?_cons_succ]); try exact rfl
      case br50 =>
       have x_0 := kE.get (x := .int .i64 0) 0 rfl
       have f_0 := kE.frozen 0
       have x_1 := kE.get (x := .slice none 0 0) 1 rfl
       have f_1 := kE.frozen 1
       have lE := kE.lt
       have neAS : w.heap.size ≠ aE := Blk.ne_ kAS kE (by decide)
       have neAF : (w.heap.size + 1) ≠ aE := Blk.ne_ kAF kE (by decide)
       have neD : aD ≠ aE := Blk.ne_ kD kE (by decide)
       go_simp
       refine hK.out _ _ (by exact S4 (((kAS).far (p := ⟨aE, 0, none⟩) neAS (.int .i64 F'.sz)).far (p := ⟨aE, 1, none⟩) neAS (.slice P3 F'.xs.length P3c)) (((kAF).far (p := ⟨aE, 0, none⟩) neAF (.int .i64 F'.sz)).far (p := ⟨aE, 1, none⟩) neAF (.slice P3 F'.xs.length P3c))) (fun _ => ?_)
       clear hK K x_0 x_1 f_0 f_1 lE
       try simp only [Act.put, List.setIfInBounds_toArray, List.set_cons_zero, List.set_cons_succ]
       refine foldH ?_
       intro q hq
       have bw2 : Below w2.heap.size w2 q := by rw [hq]; exact belC (belC (bw) _ 0 laE (.int .i64 F'.sz)) _ 1 laE (.slice P3 F'.xs.length P3c)
       have kAS2 : Blk q w.heap.size 25 #[.slice A1 S.bs.length A1c, .slice A2 S.ds.length A2c] := by rw [hq]; exact ((kAS).far (p := ⟨aE, 0, none⟩) neAS (.int .i64 F'.sz)).far (p := ⟨aE, 1, none⟩) neAS (.slice P3 F'.xs.length P3c)
       have kAF2 : Blk q (w.heap.size + 1) 28 #[.int .i64 F.sz, .slice A3 F.xs.length A3c] := by rw [hq]; exact ((kAF).far (p := ⟨aE, 0, none⟩) neAF (.int .i64 F'.sz)).far (p := ⟨aE, 1, none⟩) neAF (.slice P3 F'.xs.length P3c)
       have kD2 : Blk q aD 31 #[.slice P1 S'.bs.length P1c, .slice P2 S'.ds.length P2c] := by rw [hq]; exact ((kD).far (p := ⟨aE, 0, none⟩) neD (.int .i64 F'.sz)).far (p := ⟨aE, 1, none⟩) neD (.slice P3 F'.xs.length P3c)
       have kE2 : Blk q aE 34 #[.int .i64 F'.sz, .slice P3 F'.xs.length P3c] := by rw [hq]; exact ((kE.put 0 (.int .i64 F'.sz) #[.int .i64 F'.sz, .slice none 0 0] rfl).put 1 (.slice P3 F'.xs.length P3c) #[.int .i64 F'.sz, .slice P3 F'.xs.length P3c] rfl)
       have pS2 : OwnSto lp (.agg #[.slice P1 S'.bs.length P1c, .slice P2 S'.ds.length P2c]) S' q := by rw [hq]; exact ((pS).farF kE 0 (.int .i64 F'.sz)).farF (kE.put 0 (.int .i64 F'.sz) #[.int .i64 F'.sz, .slice none 0 0] rfl) 1 (.slice P3 F'.xs.length P3c)
       have pF2 : OwnFil lp (.agg #[.int .i64 F'.sz, .slice P3 F'.xs.length P3c]) F' q := by rw [hq]; exact ((pF).farF kE 0 (.int .i64 F'.sz)).farF (kE.put 0 (.int .i64 F'.sz) #[.int .i64 F'.sz, .slice none 0 0] rfl) 1 (.slice P3 F'.xs.length P3c)
       refine wpAnyH_take (i := 15) (oi := ?oi51) (v := ?v51) ?hi51 ?hs51 ?hf51 ?hr51 ?hQ51 ?hy51 ?hS51 ?hrest51
       case hi51 => (conv => lhs; simp only [List.getElem?_toArray, List.getElem?_cons_zero, List.getElem?_cons_succ]); try exact rfl
       case hs51 => kernel_rfl
       case hf51 => kernel_rfl
       case hr51 => kernel_rfl
       case hQ51 => exact fun _ _ _ h => h
       case hS51 => exact S4 kAS2 kAF2
       case hy51 => refine Or.inl ⟨by rfl, ?_⟩; intro w hSw; (try dsimp only at hSw); go_simp; (try with_reducible rfl)
       simp only [Act.put, List.setIfInBounds_toArray, List.set_cons_zero, List.set_cons_succ]
       exact key_fwP_1_3_6_11_12_13_14 P1 P1c P2 P2c P3 P3c Y1 Y1c Y2 Y2c Y3 Y3c aD aE lp q ⟨bw2, kAF2, kAS2, kD2, kE2, pF2, pS2, laD, laE, lpf⟩
    case key =>
     rintro P1 P1c P2 P2c P3 P3c Y1 Y1c Y2 Y2c Y3 Y3c aD aE lp r ⟨bw, kAF, kAS, kD, kE, pF, pS, laD, laE, lpf⟩
     try dsimp only
     refine wpAnyH_done (by kernel_rfl) ?_ _
     go_wp2_with fail
     go_meet
     case rel => exact ⟨aD, aE, lp, _, P1, P1c, P2, P2c, P3, P3c, rfl, rfl, rfl, lpf, Lib.hid kD, Lib.hid kE, Lib.hid pS.in_, Lib.hid pF.in_, bw⟩
  case rest =>
    obtain ⟨gPS, gPF, loP, hiP, P1, P1c, P2, P2c, P3, P3c, rfl, rfl, rfl, hlpP, kb1, kb2, si, fi, hq3⟩ := hcut
    rename World => w3
    have B3 := belN B2 hq3
    have z3 := hq3.size
    have AS_3 := Lib.hid (AS_2.out.below hq3 AS_2.out.lt)
    clear AS_2
    have AF_3 := Lib.hid (AF_2.out.below hq3 AF_2.out.lt)
    clear AF_2
    have hhpP : hiP ≤ w3.heap.size := si.out.1
    have lgPS := kb1.out.lt
    have lgPF := kb2.out.lt
    have PS_3 := Lib.hid (kb1.out)
    have PF_3 := Lib.hid (kb2.out)
    have PSo_3 := Lib.hid (si.out)
    have PFo_3 := Lib.hid (fi.out)
    clear kb1 kb2 si fi HA_S HA_F
    have cAS0 := AS_3.out.get (x := .slice A1 S.bs.length A1c) 0 rfl
    have cAS1 := AS_3.out.get (x := .slice A2 S.ds.length A2c) 1 rfl
    have lAS := AS_3.out.lt
    go_wp2_with fail
    clear cAS0 cAS1 lAS
    refine (toStore_is _ S HsmS.out _ (HSto.out _ B3)).mono ?_
    rintro e w4 ⟨_, rfl, hO, hb4⟩
    have B4 := belN B3 hb4
    have z4 := hb4.size
    have AS_4 := Lib.hid (AS_3.out.below hb4 AS_3.out.lt)
    clear AS_3
    have AF_4 := Lib.hid (AF_3.out.below hb4 AF_3.out.lt)
    clear AF_3
    have PS_4 := Lib.hid (PS_3.out.below hb4 PS_3.out.lt)
    clear PS_3
    have PF_4 := Lib.hid (PF_3.out.below hb4 PF_3.out.lt)
    clear PF_3
    have PSo_4 := Lib.hid (PSo_3.out.next hb4)
    clear PSo_3
    have PFo_4 := Lib.hid (PFo_3.out.next hb4)
    clear PFo_3
    obtain ⟨_, _, rfl, oa, ob⟩ := hO
    obtain ⟨X1, X1c, rfl, _, _, _⟩ := own_vals oa
    obtain ⟨X2, X2c, rfl, _, _, _⟩ := own_vals ob
    obtain ⟨loXS, hloXS⟩ : ∃ l, w3.heap.size = l := ⟨_, rfl⟩
    obtain ⟨hiXS, hhiXS⟩ : ∃ l, w4.heap.size = l := ⟨_, rfl⟩
    have hIn := OwnSto.in_ (show OwnSto w3.heap.size (.agg #[.slice X1 S.bs.length X1c, .slice X2 S.ds.length X2c]) S w4 from ⟨_, _, rfl, oa, ob⟩)
    rw [hloXS, hhiXS] at hIn
    have mlXS : w3.heap.size ≤ loXS ∧ loXS ≤ w3.heap.size := by omega
    have mhXS : w4.heap.size ≤ hiXS ∧ hiXS ≤ w4.heap.size := by omega
    clear hloXS hhiXS
    have XSo_4 := Lib.hid (hIn)
    clear hIn oa ob
    have cAF0 := AF_4.out.get (x := .int .i64 F.sz) 0 rfl
    have cAF1 := AF_4.out.get (x := .slice A3 F.xs.length A3c) 1 rfl
    have lAF := AF_4.out.lt
    go_wp2_with fail
    clear cAF0 cAF1 lAF
    obtain ⟨w5, hw5⟩ : ∃ W, w4.alloc (.cells #[.slice X1 S.bs.length X1c, .slice X2 S.ds.length X2c] 31) = W := ⟨_, rfl⟩
    have hb5 : Below w4.heap.size w4 w5 := by rw [← hw5]; exact belA (bel0 _) _
    have hO : Blk w5 w4.heap.size 31 #[.slice X1 S.bs.length X1c, .slice X2 S.ds.length X2c] := by rw [← hw5]; exact Blk.new' _ _ _ _ rfl
    obtain ⟨gXS, hgXS⟩ : ∃ g, w4.heap.size = g := ⟨_, rfl⟩
    try rw [hw5]
    try rw [hgXS]
    rw [hgXS] at hO
    have B5 := belN B4 hb5
    have z5 := hb5.size
    have zgXS : w4.heap.size ≤ gXS := by omega
    clear hw5
    have AS_5 := Lib.hid (AS_4.out.below hb5 AS_4.out.lt)
    clear AS_4
    have AF_5 := Lib.hid (AF_4.out.below hb5 AF_4.out.lt)
    clear AF_4
    have PS_5 := Lib.hid (PS_4.out.below hb5 PS_4.out.lt)
    clear PS_4
    have PF_5 := Lib.hid (PF_4.out.below hb5 PF_4.out.lt)
    clear PF_4
    have PSo_5 := Lib.hid (PSo_4.out.next hb5)
    clear PSo_4
    have PFo_5 := Lib.hid (PFo_4.out.next hb5)
    clear PFo_4
    have XSo_5 := Lib.hid (XSo_4.out.next hb5)
    clear XSo_4
    have lgXS := hO.lt
    have XS_5 := Lib.hid (hO)
    clear hO hgXS
    refine (toFil_is _ F HsmF.out _ (HFil.out _ B5)).mono ?_
    rintro e w6 ⟨_, rfl, hO, hb6⟩
    have B6 := belN B5 hb6
    have z6 := hb6.size
    have AS_6 := Lib.hid (AS_5.out.below hb6 AS_5.out.lt)
    clear AS_5
    have AF_6 := Lib.hid (AF_5.out.below hb6 AF_5.out.lt)
    clear AF_5
    have PS_6 := Lib.hid (PS_5.out.below hb6 PS_5.out.lt)
    clear PS_5
    have PF_6 := Lib.hid (PF_5.out.below hb6 PF_5.out.lt)
    clear PF_5
    have PSo_6 := Lib.hid (PSo_5.out.next hb6)
    clear PSo_5
    have PFo_6 := Lib.hid (PFo_5.out.next hb6)
    clear PFo_5
    have XSo_6 := Lib.hid (XSo_5.out.next hb6)
    clear XSo_5
    have XS_6 := Lib.hid (XS_5.out.below hb6 XS_5.out.lt)
    clear XS_5
    obtain ⟨_, rfl, oa⟩ := hO
    obtain ⟨X3, X3c, rfl, _, _, _⟩ := own_vals oa
    obtain ⟨loXF, hloXF⟩ : ∃ l, w5.heap.size = l := ⟨_, rfl⟩
    obtain ⟨hiXF, hhiXF⟩ : ∃ l, w6.heap.size = l := ⟨_, rfl⟩
    have hIn := OwnFil.in_ (show OwnFil w5.heap.size (.agg #[.int .i64 F.sz, .slice X3 F.xs.length X3c]) F w6 from ⟨_, rfl, oa⟩)
    rw [hloXF, hhiXF] at hIn
    have mlXF : w5.heap.size ≤ loXF ∧ loXF ≤ w5.heap.size := by omega
    have mhXF : w6.heap.size ≤ hiXF ∧ hiXF ≤ w6.heap.size := by omega
    clear hloXF hhiXF
    have XFo_6 := Lib.hid (hIn)
    clear hIn oa
    have cXS0 := XS_6.out.get (x := .slice X1 S.bs.length X1c) 0 rfl
    have cXS1 := XS_6.out.get (x := .slice X2 S.ds.length X2c) 1 rfl
    have lXS := XS_6.out.lt
    go_wp2_with fail
    clear cXS0 cXS1 lXS
    obtain ⟨w7, hw7⟩ : ∃ W, w6.alloc (.cells #[.int .i64 F.sz, .slice X3 F.xs.length X3c] 34) = W := ⟨_, rfl⟩
    have hb7 : Below w6.heap.size w6 w7 := by rw [← hw7]; exact belA (bel0 _) _
    have hO : Blk w7 w6.heap.size 34 #[.int .i64 F.sz, .slice X3 F.xs.length X3c] := by rw [← hw7]; exact Blk.new' _ _ _ _ rfl
    obtain ⟨gXF, hgXF⟩ : ∃ g, w6.heap.size = g := ⟨_, rfl⟩
    try rw [hw7]
    try rw [hgXF]
    rw [hgXF] at hO
    have B7 := belN B6 hb7
    have z7 := hb7.size
    have zgXF : w6.heap.size ≤ gXF := by omega
    clear hw7
    have AS_7 := Lib.hid (AS_6.out.below hb7 AS_6.out.lt)
    clear AS_6
    have AF_7 := Lib.hid (AF_6.out.below hb7 AF_6.out.lt)
    clear AF_6
    have PS_7 := Lib.hid (PS_6.out.below hb7 PS_6.out.lt)
    clear PS_6
    have PF_7 := Lib.hid (PF_6.out.below hb7 PF_6.out.lt)
    clear PF_6
    have PSo_7 := Lib.hid (PSo_6.out.next hb7)
    clear PSo_6
    have PFo_7 := Lib.hid (PFo_6.out.next hb7)
    clear PFo_6
    have XSo_7 := Lib.hid (XSo_6.out.next hb7)
    clear XSo_6
    have XS_7 := Lib.hid (XS_6.out.below hb7 XS_6.out.lt)
    clear XS_6
    have XFo_7 := Lib.hid (XFo_6.out.next hb7)
    clear XFo_6
    have lgXF := hO.lt
    have XF_7 := Lib.hid (hO)
    clear hO hgXF
    refine (filWrite_impl _ _ S F HsmS.out HsmF.out off data hd2 HP.out _ XSo_7.out.own.sto XFo_7.out.own.fil).mono ?_
    rintro e w8 ⟨_, _, rfl, hS, hFF, hb8⟩
    have B8 := belN B7 hb8
    have z8 := hb8.size
    have AS_8 := Lib.hid (AS_7.out.below hb8 AS_7.out.lt)
    clear AS_7
    have AF_8 := Lib.hid (AF_7.out.below hb8 AF_7.out.lt)
    clear AF_7
    have PS_8 := Lib.hid (PS_7.out.below hb8 PS_7.out.lt)
    clear PS_7
    have PF_8 := Lib.hid (PF_7.out.below hb8 PF_7.out.lt)
    clear PF_7
    have PSo_8 := Lib.hid (PSo_7.out.next hb8)
    clear PSo_7
    have PFo_8 := Lib.hid (PFo_7.out.next hb8)
    clear PFo_7
    have XSo_8 := Lib.hid (XSo_7.out.next hb8)
    clear XSo_7
    have XS_8 := Lib.hid (XS_7.out.below hb8 XS_7.out.lt)
    clear XS_7
    have XFo_8 := Lib.hid (XFo_7.out.next hb8)
    clear XFo_7
    have XF_8 := Lib.hid (XF_7.out.below hb8 XF_7.out.lt)
    clear XF_7
    obtain ⟨_, _, rfl, oa, ob⟩ := hS
    obtain ⟨G1, G1c, rfl, _, _, _⟩ := own_vals oa
    obtain ⟨G2, G2c, rfl, _, _, _⟩ := own_vals ob
    obtain ⟨loGS, hloGS⟩ : ∃ l, w7.heap.size = l := ⟨_, rfl⟩
    obtain ⟨hiGS, hhiGS⟩ : ∃ l, w8.heap.size = l := ⟨_, rfl⟩
    have hIn := OwnSto.in_ (show OwnSto w7.heap.size (.agg #[.slice G1 S'.bs.length G1c, .slice G2 S'.ds.length G2c]) S' w8 from ⟨_, _, rfl, oa, ob⟩)
    rw [hloGS, hhiGS] at hIn
    have mlGS : w7.heap.size ≤ loGS ∧ loGS ≤ w7.heap.size := by omega
    have mhGS : w8.heap.size ≤ hiGS ∧ hiGS ≤ w8.heap.size := by omega
    clear hloGS hhiGS
    have GSo_8 := Lib.hid (hIn)
    clear hIn oa ob
    obtain ⟨_, rfl, oa⟩ := hFF
    obtain ⟨G3, G3c, rfl, _, _, _⟩ := own_vals oa
    obtain ⟨loGF, hloGF⟩ : ∃ l, w7.heap.size = l := ⟨_, rfl⟩
    obtain ⟨hiGF, hhiGF⟩ : ∃ l, w8.heap.size = l := ⟨_, rfl⟩
    have hIn := OwnFil.in_ (show OwnFil w7.heap.size (.agg #[.int .i64 F'.sz, .slice G3 F'.xs.length G3c]) F' w8 from ⟨_, rfl, oa⟩)
    rw [hloGF, hhiGF] at hIn
    have mlGF : w7.heap.size ≤ loGF ∧ loGF ≤ w7.heap.size := by omega
    have mhGF : w8.heap.size ≤ hiGF ∧ hiGF ≤ w8.heap.size := by omega
    clear hloGF hhiGF
    have GFo_8 := Lib.hid (hIn)
    clear hIn oa
    have cPS0 := PS_8.out.get (x := .slice P1 S'.bs.length P1c) 0 rfl
    have cPS1 := PS_8.out.get (x := .slice P2 S'.ds.length P2c) 1 rfl
    have lPS := PS_8.out.lt
    go_wp2_with fail
    clear cPS0 cPS1 lPS
    obtain ⟨w9, hw9⟩ : ∃ W, (w8.alloc (.cells #[.slice G1 S'.bs.length G1c, .slice G2 S'.ds.length G2c] 31)).alloc (.cells #[.int .i64 F'.sz, .slice G3 F'.xs.length G3c] 34) = W := ⟨_, rfl⟩
    have hb9 : Below w8.heap.size w8 w9 := by rw [← hw9]; exact belA (belA (bel0 _) _) _
    have hO1 : Blk w9 w8.heap.size 31 #[.slice G1 S'.bs.length G1c, .slice G2 S'.ds.length G2c] := by rw [← hw9]; exact (Blk.new' _ _ _ _ rfl).alloc _
    have hO2 : Blk w9 (w8.heap.size + 1) 34 #[.int .i64 F'.sz, .slice G3 F'.xs.length G3c] := by rw [← hw9]; exact Blk.new' _ _ _ _ (by simp)
    obtain ⟨gGS, hgGS⟩ : ∃ g, w8.heap.size = g := ⟨_, rfl⟩
    obtain ⟨gGF, hgGF⟩ : ∃ g, gGS + 1 = g := ⟨_, rfl⟩
    try rw [hw9]
    rw [hgGS] at hO1 hO2
    rw [hgGF] at hO2
    try rw [hgGS]
    try rw [hgGF]
    have B9 := belN B8 hb9
    have z9 := hb9.size
    have zgG : w8.heap.size ≤ gGS ∧ w8.heap.size ≤ gGF := by omega
    clear hw9
    have AS_9 := Lib.hid (AS_8.out.below hb9 AS_8.out.lt)
    clear AS_8
    have AF_9 := Lib.hid (AF_8.out.below hb9 AF_8.out.lt)
    clear AF_8
    have PS_9 := Lib.hid (PS_8.out.below hb9 PS_8.out.lt)
    clear PS_8
    have PF_9 := Lib.hid (PF_8.out.below hb9 PF_8.out.lt)
    clear PF_8
    have PSo_9 := Lib.hid (PSo_8.out.next hb9)
    clear PSo_8
    have PFo_9 := Lib.hid (PFo_8.out.next hb9)
    clear PFo_8
    have XSo_9 := Lib.hid (XSo_8.out.next hb9)
    clear XSo_8
    have XS_9 := Lib.hid (XS_8.out.below hb9 XS_8.out.lt)
    clear XS_8
    have XFo_9 := Lib.hid (XFo_8.out.next hb9)
    clear XFo_8
    have XF_9 := Lib.hid (XF_8.out.below hb9 XF_8.out.lt)
    clear XF_8
    have GSo_9 := Lib.hid (GSo_8.out.next hb9)
    clear GSo_8
    have GFo_9 := Lib.hid (GFo_8.out.next hb9)
    clear GFo_8
    have lgGS := hO1.lt
    have lgGF := hO2.lt
    have GS_9 := Lib.hid (hO1)
    have GF_9 := Lib.hid (hO2)
    clear hO1 hO2 hgGS hgGF
    refine (eqStore_is _ _ S' q1 q2 _ GSo_9.out.own.sto PSo_9.out.own.sto).mono ?_
    rintro e w10 ⟨rfl, hb10⟩
    have B10 := belN B9 hb10
    have z10 := hb10.size
    have AS_10 := Lib.hid (AS_9.out.below hb10 AS_9.out.lt)
    clear AS_9
    have AF_10 := Lib.hid (AF_9.out.below hb10 AF_9.out.lt)
    clear AF_9
    have PS_10 := Lib.hid (PS_9.out.below hb10 PS_9.out.lt)
    clear PS_9
    have PF_10 := Lib.hid (PF_9.out.below hb10 PF_9.out.lt)
    clear PF_9
    have PSo_10 := Lib.hid (PSo_9.out.next hb10)
    clear PSo_9
    have PFo_10 := Lib.hid (PFo_9.out.next hb10)
    clear PFo_9
    have XSo_10 := Lib.hid (XSo_9.out.next hb10)
    clear XSo_9
    have XS_10 := Lib.hid (XS_9.out.below hb10 XS_9.out.lt)
    clear XS_9
    have XFo_10 := Lib.hid (XFo_9.out.next hb10)
    clear XFo_9
    have XF_10 := Lib.hid (XF_9.out.below hb10 XF_9.out.lt)
    clear XF_9
    have GSo_10 := Lib.hid (GSo_9.out.next hb10)
    clear GSo_9
    have GFo_10 := Lib.hid (GFo_9.out.next hb10)
    clear GFo_9
    have GS_10 := Lib.hid (GS_9.out.below hb10 GS_9.out.lt)
    clear GS_9
    have GF_10 := Lib.hid (GF_9.out.below hb10 GF_9.out.lt)
    clear GF_9
    have cGF0 := GF_10.out.get (x := .int .i64 F'.sz) 0 rfl
    have cGF1 := GF_10.out.get (x := .slice G3 F'.xs.length G3c) 1 rfl
    have lGF := GF_10.out.lt
    have cPF0 := PF_10.out.get (x := .int .i64 F'.sz) 0 rfl
    have cPF1 := PF_10.out.get (x := .slice P3 F'.xs.length P3c) 1 rfl
    have lPF := PF_10.out.lt
    go_wp2_with fail
    clear cGF0 cGF1 lGF
    clear cPF0 cPF1 lPF
    refine (eqFil_is _ _ F' q3 _ GFo_10.out.own.fil PFo_10.out.own.fil).mono ?_
    rintro e w11 ⟨rfl, hb11⟩
    have B11 := belN B10 hb11
    have z11 := hb11.size
    have AS_11 := Lib.hid (AS_10.out.below hb11 AS_10.out.lt)
    clear AS_10
    have AF_11 := Lib.hid (AF_10.out.below hb11 AF_10.out.lt)
    clear AF_10
    have PS_11 := Lib.hid (PS_10.out.below hb11 PS_10.out.lt)
    clear PS_10
    have PF_11 := Lib.hid (PF_10.out.below hb11 PF_10.out.lt)
    clear PF_10
    have PSo_11 := Lib.hid (PSo_10.out.next hb11)
    clear PSo_10
    have PFo_11 := Lib.hid (PFo_10.out.next hb11)
    clear PFo_10
    have XSo_11 := Lib.hid (XSo_10.out.next hb11)
    clear XSo_10
    have XS_11 := Lib.hid (XS_10.out.below hb11 XS_10.out.lt)
    clear XS_10
    have XFo_11 := Lib.hid (XFo_10.out.next hb11)
    clear XFo_10
    have XF_11 := Lib.hid (XF_10.out.below hb11 XF_10.out.lt)
    clear XF_10
    have GSo_11 := Lib.hid (GSo_10.out.next hb11)
    clear GSo_10
    have GFo_11 := Lib.hid (GFo_10.out.next hb11)
    clear GFo_10
    have GS_11 := Lib.hid (GS_10.out.below hb11 GS_10.out.lt)
    clear GS_10
    have GF_11 := Lib.hid (GF_10.out.below hb11 GF_10.out.lt)
    clear GF_10
    have cXS0 := XS_11.out.get (x := .slice X1 S.bs.length X1c) 0 rfl
    have cXS1 := XS_11.out.get (x := .slice X2 S.ds.length X2c) 1 rfl
    have lXS := XS_11.out.lt
    have cAS0 := AS_11.out.get (x := .slice A1 S.bs.length A1c) 0 rfl
    have cAS1 := AS_11.out.get (x := .slice A2 S.ds.length A2c) 1 rfl
    have lAS := AS_11.out.lt
    go_wp2_with fail
    go_region_held3 (fun w' => w'.cell? ⟨gXS, 0, none⟩ = some (.slice X1 S.bs.length X1c) ∧ w'.cell? ⟨gXS, 1, none⟩ = some (.slice X2 S.ds.length X2c) ∧ w'.cell? ⟨w.heap.size, 0, none⟩ = some (.slice A1 S.bs.length A1c) ∧ w'.cell? ⟨w.heap.size, 1, none⟩ = some (.slice A2 S.ds.length A2c)) (first | go_keep | (refine ⟨keep1 hb13 ?_, keep1 hb13 ?_, keep1 hb13 ?_, keep1 hb13 ?_⟩ <;> go_keep) | (refine ⟨keep1 hb12 ?_, keep1 hb12 ?_, keep1 hb12 ?_, keep1 hb12 ?_⟩ <;> go_keep))
      (first
        | (go_at_call 7; refine (toStore_is _ S HsmS.out _ (HSto.out _ B11.drew)).mono ?_; rintro e w12 ⟨_, rfl, hO, hb12⟩)
        | (go_at_call 10; refine (eqStore_is _ _ S HsmS.out.1 HsmS.out.2.1 _ ((XSo_11.out.next (bel0 w11).drew).next hb12).own.sto hO.sto).mono ?_; rintro e w13 ⟨rfl, hb13⟩))
    clear cXS0 cXS1 lXS
    clear cAS0 cAS1 lAS
    have hq13 : Below w11.heap.size w11 w13 := ((bel0 w11).drew.trans hb12).trans (hb13.mono hb12.size)
    have B13 := belN B11 hq13
    have z13 : w11.heap.size ≤ w13.heap.size := hq13.size
    clear hO hb12 hb13
    have AS_13 := Lib.hid (AS_11.out.below hq13 AS_11.out.lt)
    clear AS_11
    have AF_13 := Lib.hid (AF_11.out.below hq13 AF_11.out.lt)
    clear AF_11
    have PS_13 := Lib.hid (PS_11.out.below hq13 PS_11.out.lt)
    clear PS_11
    have PF_13 := Lib.hid (PF_11.out.below hq13 PF_11.out.lt)
    clear PF_11
    have PSo_13 := Lib.hid (PSo_11.out.next hq13)
    clear PSo_11
    have PFo_13 := Lib.hid (PFo_11.out.next hq13)
    clear PFo_11
    have XSo_13 := Lib.hid (XSo_11.out.next hq13)
    clear XSo_11
    have XS_13 := Lib.hid (XS_11.out.below hq13 XS_11.out.lt)
    clear XS_11
    have XFo_13 := Lib.hid (XFo_11.out.next hq13)
    clear XFo_11
    have XF_13 := Lib.hid (XF_11.out.below hq13 XF_11.out.lt)
    clear XF_11
    have GSo_13 := Lib.hid (GSo_11.out.next hq13)
    clear GSo_11
    have GFo_13 := Lib.hid (GFo_11.out.next hq13)
    clear GFo_11
    have GS_13 := Lib.hid (GS_11.out.below hq13 GS_11.out.lt)
    clear GS_11
    have GF_13 := Lib.hid (GF_11.out.below hq13 GF_11.out.lt)
    clear GF_11
    have cXF0 := XF_13.out.get (x := .int .i64 F.sz) 0 rfl
    have cXF1 := XF_13.out.get (x := .slice X3 F.xs.length X3c) 1 rfl
    have lXF := XF_13.out.lt
    have cAF0 := AF_13.out.get (x := .int .i64 F.sz) 0 rfl
    have cAF1 := AF_13.out.get (x := .slice A3 F.xs.length A3c) 1 rfl
    have lAF := AF_13.out.lt
    go_wp2_with fail
    go_region_held3 (fun w' => w'.cell? ⟨gXF, 0, none⟩ = some (.int .i64 F.sz) ∧ w'.cell? ⟨gXF, 1, none⟩ = some (.slice X3 F.xs.length X3c) ∧ w'.cell? ⟨w.heap.size + 1, 0, none⟩ = some (.int .i64 F.sz) ∧ w'.cell? ⟨w.heap.size + 1, 1, none⟩ = some (.slice A3 F.xs.length A3c)) (first | go_keep | (refine ⟨keep1 hb15 ?_, keep1 hb15 ?_, keep1 hb15 ?_, keep1 hb15 ?_⟩ <;> go_keep) | (refine ⟨keep1 hb14 ?_, keep1 hb14 ?_, keep1 hb14 ?_, keep1 hb14 ?_⟩ <;> go_keep))
      (first
        | (go_at_call 8; refine (toFil_is _ F HsmF.out _ (HFil.out _ B13.drew)).mono ?_; rintro e w14 ⟨_, rfl, hO, hb14⟩)
        | (go_at_call 11; refine (eqFil_is _ _ F HsmF.out _ ((XFo_13.out.next (bel0 w13).drew).next hb14).own.fil hO.fil).mono ?_; rintro e w15 ⟨rfl, hb15⟩))
    clear cXF0 cXF1 lXF
    clear cAF0 cAF1 lAF
    have hq15 : Below w13.heap.size w13 w15 := ((bel0 w13).drew.trans hb14).trans (hb15.mono hb14.size)
    have B15 := belN B13 hq15
    have z15 : w13.heap.size ≤ w15.heap.size := hq15.size
    clear hO hb14 hb15
    have AS_15 := Lib.hid (AS_13.out.below hq15 AS_13.out.lt)
    clear AS_13
    have AF_15 := Lib.hid (AF_13.out.below hq15 AF_13.out.lt)
    clear AF_13
    have PS_15 := Lib.hid (PS_13.out.below hq15 PS_13.out.lt)
    clear PS_13
    have PF_15 := Lib.hid (PF_13.out.below hq15 PF_13.out.lt)
    clear PF_13
    have PSo_15 := Lib.hid (PSo_13.out.next hq15)
    clear PSo_13
    have PFo_15 := Lib.hid (PFo_13.out.next hq15)
    clear PFo_13
    have XSo_15 := Lib.hid (XSo_13.out.next hq15)
    clear XSo_13
    have XS_15 := Lib.hid (XS_13.out.below hq15 XS_13.out.lt)
    clear XS_13
    have XFo_15 := Lib.hid (XFo_13.out.next hq15)
    clear XFo_13
    have XF_15 := Lib.hid (XF_13.out.below hq15 XF_13.out.lt)
    clear XF_13
    have GSo_15 := Lib.hid (GSo_13.out.next hq15)
    clear GSo_13
    have GFo_15 := Lib.hid (GFo_13.out.next hq15)
    clear GFo_13
    have GS_15 := Lib.hid (GS_13.out.below hq15 GS_13.out.lt)
    clear GS_13
    have GF_15 := Lib.hid (GF_13.out.below hq15 GF_13.out.lt)
    clear GF_13
    have cXS0 := XS_15.out.get (x := .slice X1 S.bs.length X1c) 0 rfl
    have cXS1 := XS_15.out.get (x := .slice X2 S.ds.length X2c) 1 rfl
    have lXS := XS_15.out.lt
    go_wp2_with fail
    clear cXS0 cXS1 lXS
    refine (markStore_is _ _ _ S HsmS.out.1 HsmS.out.2.1 1 (by omega) (by have := HsmS.out.1; have := HsmS.out.2.1; omega) _ XSo_15.out).mono ?_
    rintro e w16 ⟨rfl, hM, hbt16, hK⟩
    have z16 := hbt16.size
    have B16 := B15.trans (hbt16.bel (B := w.heap.size) (by omega) (by omega))
    clear XSo_15 hM hK
    have AS_16 := Lib.hid (blk_betw AS_15.out hbt16 (by have := AS_15.out.lt; omega))
    clear AS_15
    have AF_16 := Lib.hid (blk_betw AF_15.out hbt16 (by have := AF_15.out.lt; omega))
    clear AF_15
    have PS_16 := Lib.hid (blk_betw PS_15.out hbt16 (by have := PS_15.out.lt; omega))
    clear PS_15
    have PF_16 := Lib.hid (blk_betw PF_15.out hbt16 (by have := PF_15.out.lt; omega))
    clear PF_15
    have PSo_16 := Lib.hid (PSo_15.out.betw hbt16 (by omega))
    clear PSo_15
    have PFo_16 := Lib.hid (PFo_15.out.betw hbt16 (by omega))
    clear PFo_15
    have XS_16 := Lib.hid (blk_betw XS_15.out hbt16 (by have := XS_15.out.lt; omega))
    clear XS_15
    have XFo_16 := Lib.hid (XFo_15.out.betw hbt16 (by omega))
    clear XFo_15
    have XF_16 := Lib.hid (blk_betw XF_15.out hbt16 (by have := XF_15.out.lt; omega))
    clear XF_15
    have GSo_16 := Lib.hid (GSo_15.out.betw hbt16 (by omega))
    clear GSo_15
    have GFo_16 := Lib.hid (GFo_15.out.betw hbt16 (by omega))
    clear GFo_15
    have GS_16 := Lib.hid (blk_betw GS_15.out hbt16 (by have := GS_15.out.lt; omega))
    clear GS_15
    have GF_16 := Lib.hid (blk_betw GF_15.out hbt16 (by have := GF_15.out.lt; omega))
    clear GF_15
    have cXF0 := XF_16.out.get (x := .int .i64 F.sz) 0 rfl
    have cXF1 := XF_16.out.get (x := .slice X3 F.xs.length X3c) 1 rfl
    have lXF := XF_16.out.lt
    go_wp2_with fail
    clear cXF0 cXF1 lXF
    refine (markFil_is _ _ _ F HsmF.out (1 + (S.bs.length : Int) + (S.ds.length : Int)) (by omega) (by have := HsmS.out.1; have := HsmS.out.2.1; omega) _ XFo_16.out).mono ?_
    rintro e w17 ⟨rfl, hM, hbt17, hK⟩
    have z17 := hbt17.size
    have B17 := B16.trans (hbt17.bel (B := w.heap.size) (by omega) (by omega))
    clear XFo_16 hM hK
    have AS_17 := Lib.hid (blk_betw AS_16.out hbt17 (by have := AS_16.out.lt; omega))
    clear AS_16
    have AF_17 := Lib.hid (blk_betw AF_16.out hbt17 (by have := AF_16.out.lt; omega))
    clear AF_16
    have PS_17 := Lib.hid (blk_betw PS_16.out hbt17 (by have := PS_16.out.lt; omega))
    clear PS_16
    have PF_17 := Lib.hid (blk_betw PF_16.out hbt17 (by have := PF_16.out.lt; omega))
    clear PF_16
    have PSo_17 := Lib.hid (PSo_16.out.betw hbt17 (by omega))
    clear PSo_16
    have PFo_17 := Lib.hid (PFo_16.out.betw hbt17 (by omega))
    clear PFo_16
    have XS_17 := Lib.hid (blk_betw XS_16.out hbt17 (by have := XS_16.out.lt; omega))
    clear XS_16
    have XF_17 := Lib.hid (blk_betw XF_16.out hbt17 (by have := XF_16.out.lt; omega))
    clear XF_16
    have GSo_17 := Lib.hid (GSo_16.out.betw hbt17 (by omega))
    clear GSo_16
    have GFo_17 := Lib.hid (GFo_16.out.betw hbt17 (by omega))
    clear GFo_16
    have GS_17 := Lib.hid (blk_betw GS_16.out hbt17 (by have := GS_16.out.lt; omega))
    clear GS_16
    have GF_17 := Lib.hid (blk_betw GF_16.out hbt17 (by have := GF_16.out.lt; omega))
    clear GF_16
    clear XS_17
    clear XF_17
    have nk : ¬ (1 + (S.bs.length : Int) + (S.ds.length : Int) + 3 * (F.xs.length : Int) < 0) := by omega
    have cGS0 := GS_17.out.get (x := .slice G1 S'.bs.length G1c) 0 rfl
    have cGS1 := GS_17.out.get (x := .slice G2 S'.ds.length G2c) 1 rfl
    have lGS := GS_17.out.lt
    have cPS0 := PS_17.out.get (x := .slice P1 S'.bs.length P1c) 0 rfl
    have cPS1 := PS_17.out.get (x := .slice P2 S'.ds.length P2c) 1 rfl
    have lPS := PS_17.out.lt
    go_wp2_with fail
    clear cGS0 cGS1 lGS
    clear cPS0 cPS1 lPS
    refine (eqStore_is _ _ S' q1 q2 _ GSo_17.out.own.sto PSo_17.out.own.sto).mono ?_
    rintro e w18 ⟨rfl, hb18⟩
    have B18 := belN B17 hb18
    have z18 := hb18.size
    have AS_18 := Lib.hid (AS_17.out.below hb18 AS_17.out.lt)
    clear AS_17
    have AF_18 := Lib.hid (AF_17.out.below hb18 AF_17.out.lt)
    clear AF_17
    have PS_18 := Lib.hid (PS_17.out.below hb18 PS_17.out.lt)
    clear PS_17
    have PF_18 := Lib.hid (PF_17.out.below hb18 PF_17.out.lt)
    clear PF_17
    have PSo_18 := Lib.hid (PSo_17.out.next hb18)
    clear PSo_17
    have PFo_18 := Lib.hid (PFo_17.out.next hb18)
    clear PFo_17
    have GSo_18 := Lib.hid (GSo_17.out.next hb18)
    clear GSo_17
    have GFo_18 := Lib.hid (GFo_17.out.next hb18)
    clear GFo_17
    have GS_18 := Lib.hid (GS_17.out.below hb18 GS_17.out.lt)
    clear GS_17
    have GF_18 := Lib.hid (GF_17.out.below hb18 GF_17.out.lt)
    clear GF_17
    have cGF0 := GF_18.out.get (x := .int .i64 F'.sz) 0 rfl
    have cGF1 := GF_18.out.get (x := .slice G3 F'.xs.length G3c) 1 rfl
    have lGF := GF_18.out.lt
    have cPF0 := PF_18.out.get (x := .int .i64 F'.sz) 0 rfl
    have cPF1 := PF_18.out.get (x := .slice P3 F'.xs.length P3c) 1 rfl
    have lPF := PF_18.out.lt
    go_wp2_with fail
    clear cGF0 cGF1 lGF
    clear cPF0 cPF1 lPF
    refine (eqFil_is _ _ F' q3 _ GFo_18.out.own.fil PFo_18.out.own.fil).mono ?_
    rintro e w19 ⟨rfl, hb19⟩
    have B19 := belN B18 hb19
    have z19 := hb19.size
    have AS_19 := Lib.hid (AS_18.out.below hb19 AS_18.out.lt)
    clear AS_18
    have AF_19 := Lib.hid (AF_18.out.below hb19 AF_18.out.lt)
    clear AF_18
    have PS_19 := Lib.hid (PS_18.out.below hb19 PS_18.out.lt)
    clear PS_18
    have PF_19 := Lib.hid (PF_18.out.below hb19 PF_18.out.lt)
    clear PF_18
    have PSo_19 := Lib.hid (PSo_18.out.next hb19)
    clear PSo_18
    have PFo_19 := Lib.hid (PFo_18.out.next hb19)
    clear PFo_18
    have GSo_19 := Lib.hid (GSo_18.out.next hb19)
    clear GSo_18
    have GFo_19 := Lib.hid (GFo_18.out.next hb19)
    clear GFo_18
    have GS_19 := Lib.hid (GS_18.out.below hb19 GS_18.out.lt)
    clear GS_18
    have GF_19 := Lib.hid (GF_18.out.below hb19 GF_18.out.lt)
    clear GF_18
    clear nk
    have cGS0 := GS_19.out.get (x := .slice G1 S'.bs.length G1c) 0 rfl
    have cGS1 := GS_19.out.get (x := .slice G2 S'.ds.length G2c) 1 rfl
    have lGS := GS_19.out.lt
    go_wp2_with fail
    clear cGS0 cGS1 lGS
    refine (markStore_is _ _ _ S' q1 q2 1 (by omega) (by have := HsmS.out.1; have := HsmS.out.2.1; omega) _ GSo_19.out).mono ?_
    rintro e w20 ⟨rfl, hM, hbt20, hK⟩
    have z20 := hbt20.size
    have B20 := B19.trans (hbt20.bel (B := w.heap.size) (by omega) (by omega))
    have hk := GFo_19.out.keep (hK _ _ _ GFo_19.out.own) hbt20.size
    clear GFo_19
    clear GSo_19
    have AS_20 := Lib.hid (blk_betw AS_19.out hbt20 (by have := AS_19.out.lt; omega))
    clear AS_19
    have AF_20 := Lib.hid (blk_betw AF_19.out hbt20 (by have := AF_19.out.lt; omega))
    clear AF_19
    have PS_20 := Lib.hid (blk_betw PS_19.out hbt20 (by have := PS_19.out.lt; omega))
    clear PS_19
    have PF_20 := Lib.hid (blk_betw PF_19.out hbt20 (by have := PF_19.out.lt; omega))
    clear PF_19
    have PSo_20 := Lib.hid (PSo_19.out.betw hbt20 (by omega))
    clear PSo_19
    have PFo_20 := Lib.hid (PFo_19.out.betw hbt20 (by omega))
    clear PFo_19
    have GS_20 := Lib.hid (blk_betw GS_19.out hbt20 (by have := GS_19.out.lt; omega))
    clear GS_19
    have GF_20 := Lib.hid (blk_betw GF_19.out hbt20 (by have := GF_19.out.lt; omega))
    clear GF_19
    have GFo_20 := Lib.hid (hk)
    have GSo_20 := Lib.hid (hM)
    clear hk hM hK
    have cGF0 := GF_20.out.get (x := .int .i64 F'.sz) 0 rfl
    have cGF1 := GF_20.out.get (x := .slice G3 F'.xs.length G3c) 1 rfl
    have lGF := GF_20.out.lt
    go_wp2_with fail
    clear cGF0 cGF1 lGF
    refine (markFil_is _ _ _ F' q3 (1 + (S'.bs.length : Int) + (S'.ds.length : Int)) (by omega) (by have := HsmS.out.1; have := HsmS.out.2.1; omega) _ GFo_20.out).mono ?_
    rintro e w21 ⟨rfl, hM, hbt21, hK⟩
    have z21 := hbt21.size
    have B21 := B20.trans (hbt21.bel (B := w.heap.size) (by omega) (by omega))
    have hk := hK _ _ _ GSo_20.out
    clear GSo_20
    clear GFo_20
    have AS_21 := Lib.hid (blk_betw AS_20.out hbt21 (by have := AS_20.out.lt; omega))
    clear AS_20
    have AF_21 := Lib.hid (blk_betw AF_20.out hbt21 (by have := AF_20.out.lt; omega))
    clear AF_20
    have PS_21 := Lib.hid (blk_betw PS_20.out hbt21 (by have := PS_20.out.lt; omega))
    clear PS_20
    have PF_21 := Lib.hid (blk_betw PF_20.out hbt21 (by have := PF_20.out.lt; omega))
    clear PF_20
    have PSo_21 := Lib.hid (PSo_20.out.betw hbt21 (by omega))
    clear PSo_20
    have PFo_21 := Lib.hid (PFo_20.out.betw hbt21 (by omega))
    clear PFo_20
    have GS_21 := Lib.hid (blk_betw GS_20.out hbt21 (by have := GS_20.out.lt; omega))
    clear GS_20
    have GF_21 := Lib.hid (blk_betw GF_20.out hbt21 (by have := GF_20.out.lt; omega))
    clear GF_20
    have GSo_21 := Lib.hid (hk)
    have GFo_21 := Lib.hid (hM)
    clear hk hM hK
    have cGS0 := GS_21.out.get (x := .slice G1 S'.bs.length G1c) 0 rfl
    have cGS1 := GS_21.out.get (x := .slice G2 S'.ds.length G2c) 1 rfl
    have lGS := GS_21.out.lt
    go_wp2_with fail
    clear cGS0 cGS1 lGS
    refine (heldStore_is _ _ _ _ q1 q2 1 (by omega) (by omega) _ GSo_21.out).mono ?_
    rintro e w22 ⟨rfl, hb22⟩
    have B22 := belN B21 hb22
    have z22 := hb22.size
    have AS_22 := Lib.hid (AS_21.out.below hb22 AS_21.out.lt)
    clear AS_21
    have AF_22 := Lib.hid (AF_21.out.below hb22 AF_21.out.lt)
    clear AF_21
    have PS_22 := Lib.hid (PS_21.out.below hb22 PS_21.out.lt)
    clear PS_21
    have PF_22 := Lib.hid (PF_21.out.below hb22 PF_21.out.lt)
    clear PF_21
    have PSo_22 := Lib.hid (PSo_21.out.next hb22)
    clear PSo_21
    have PFo_22 := Lib.hid (PFo_21.out.next hb22)
    clear PFo_21
    have GS_22 := Lib.hid (GS_21.out.below hb22 GS_21.out.lt)
    clear GS_21
    have GF_22 := Lib.hid (GF_21.out.below hb22 GF_21.out.lt)
    clear GF_21
    have GSo_22 := Lib.hid (GSo_21.out.next hb22)
    clear GSo_21
    have GFo_22 := Lib.hid (GFo_21.out.next hb22)
    clear GFo_21
    have nh : ¬ (1 + (S'.bs.length : Int) + (S'.ds.length : Int) < 0) := by omega
    have cGF0 := GF_22.out.get (x := .int .i64 F'.sz) 0 rfl
    have cGF1 := GF_22.out.get (x := .slice G3 F'.xs.length G3c) 1 rfl
    have lGF := GF_22.out.lt
    go_wp2_with fail
    clear cGF0 cGF1 lGF
    refine (heldFil_is _ _ _ _ q3 (1 + (S'.bs.length : Int) + (S'.ds.length : Int)) (by omega) (by omega) _ GFo_22.out).mono ?_
    rintro e w23 ⟨rfl, hb23⟩
    have B23 := belN B22 hb23
    have z23 := hb23.size
    have AS_23 := Lib.hid (AS_22.out.below hb23 AS_22.out.lt)
    clear AS_22
    have AF_23 := Lib.hid (AF_22.out.below hb23 AF_22.out.lt)
    clear AF_22
    have PS_23 := Lib.hid (PS_22.out.below hb23 PS_22.out.lt)
    clear PS_22
    have PF_23 := Lib.hid (PF_22.out.below hb23 PF_22.out.lt)
    clear PF_22
    have PSo_23 := Lib.hid (PSo_22.out.next hb23)
    clear PSo_22
    have PFo_23 := Lib.hid (PFo_22.out.next hb23)
    clear PFo_22
    have GS_23 := Lib.hid (GS_22.out.below hb23 GS_22.out.lt)
    clear GS_22
    have GF_23 := Lib.hid (GF_22.out.below hb23 GF_22.out.lt)
    clear GF_22
    have GSo_23 := Lib.hid (GSo_22.out.next hb23)
    clear GSo_22
    have GFo_23 := Lib.hid (GFo_22.out.next hb23)
    clear GFo_22
    have nh2 : ¬ (1 + (S'.bs.length : Int) + (S'.ds.length : Int) + 3 * (F'.xs.length : Int) < 0) := by omega
    go_upto_region 37 with fail
    have HA_S := AS_23.out
    have HA_F := AF_23.out
    go_cut [21, 22, 23] from 130 to 140 (fun s1 s2 s3 wx => ∃ (gS gF lp hp : Nat) (H1 : Option Addr) (H1c : Nat) (H2 : Option Addr) (H2c : Nat) (H3 : Option Addr) (H3c : Nat), s1 = .pointer (some ⟨gS, 0, none⟩) ∧ s2 = .pointer (some ⟨gF, 0, none⟩) ∧ s3 = .bool ok ∧ w.heap.size ≤ lp ∧ Hid (Blk wx gS 31 #[.slice H1 S'.bs.length H1c, .slice H2 S'.ds.length H2c]) ∧ Hid (Blk wx gF 34 #[.int .i64 F'.sz, .slice H3 F'.xs.length H3c]) ∧ Hid (StoIn lp hp (.agg #[.slice H1 S'.bs.length H1c, .slice H2 S'.ds.length H2c]) S' wx) ∧ Hid (FilIn lp hp (.agg #[.int .i64 F'.sz, .slice H3 F'.xs.length H3c]) F' wx) ∧ Below w23.heap.size w23 wx)
    case first => as_aux_lemma =>
      refine wp_region_held_drew (S := fun w' => w'.cell? ⟨w.heap.size, 0, none⟩ = some (.slice A1 S.bs.length A1c) ∧ w'.cell? ⟨w.heap.size, 1, none⟩ = some (.slice A2 S.ds.length A2c) ∧ w'.cell? ⟨(w.heap.size + 1), 0, none⟩ = some (.int .i64 F.sz) ∧ w'.cell? ⟨(w.heap.size + 1), 1, none⟩ = some (.slice A3 F.xs.length A3c)) (by kernel_rfl) (by exact S4 HA_S HA_F) (fun hHeld => ?_)
      clear hHeld
      refine foldH ?_
      intro r hr0
      have bw : Below w23.heap.size w23 r := by rw [hr0]; exact (bel0 w23).drew
      have kAS : Blk r w.heap.size 25 #[.slice A1 S.bs.length A1c, .slice A2 S.ds.length A2c] := by rw [hr0]; exact HA_S.drew
      have kAF : Blk r (w.heap.size + 1) 28 #[.int .i64 F.sz, .slice A3 F.xs.length A3c] := by rw [hr0]; exact HA_F.drew
      clear hr0
      apply memo_anananananannnnw (P := fun H1 H1c H2 H2c H3 H3c Y1 Y1c Y2 Y2c Y3 Y3c aD aE lp q => Below w23.heap.size w23 q ∧ Blk q (w.heap.size + 1) 28 #[.int .i64 F.sz, .slice A3 F.xs.length A3c] ∧ Blk q w.heap.size 25 #[.slice A1 S.bs.length A1c, .slice A2 S.ds.length A2c] ∧ Blk q aD 31 #[.slice H1 S'.bs.length H1c, .slice H2 S'.ds.length H2c] ∧ Blk q aE 34 #[.int .i64 F'.sz, .slice H3 F'.xs.length H3c] ∧ OwnFil lp (.agg #[.int .i64 F'.sz, .slice H3 F'.xs.length H3c]) F' q ∧ OwnSto lp (.agg #[.slice H1 S'.bs.length H1c, .slice H2 S'.ds.length H2c]) S' q ∧ w23.heap.size ≤ aD ∧ w23.heap.size ≤ aE ∧ w.heap.size ≤ lp)
      case use =>
       intro key_fwH_1_3_6_11_12_13_14
       apply memo_anananananannnnw (P := fun H1 H1c H2 H2c H3 H3c Y1 Y1c Y2 Y2c Y3 Y3c aD aE lp q => Below w23.heap.size w23 q ∧ Blk q (w.heap.size + 1) 28 #[.int .i64 F.sz, .slice A3 F.xs.length A3c] ∧ Blk q w.heap.size 25 #[.slice A1 S.bs.length A1c, .slice A2 S.ds.length A2c] ∧ Blk q aD 31 #[.slice H1 S'.bs.length H1c, .slice H2 S'.ds.length H2c] ∧ Blk q aE 34 #[.int .i64 0, .slice none 0 0] ∧ OwnFil lp (.agg #[.int .i64 F'.sz, .slice H3 F'.xs.length H3c]) F' q ∧ OwnSto lp (.agg #[.slice H1 S'.bs.length H1c, .slice H2 S'.ds.length H2c]) S' q ∧ w23.heap.size ≤ aD ∧ w23.heap.size ≤ aE ∧ w.heap.size ≤ lp)
       case use =>
        intro key_fwH_1_3_6_11_12_13
        apply memo_anananananannnnw (P := fun H1 H1c H2 H2c H3 H3c Y1 Y1c Y2 Y2c Y3 Y3c aD aE lp q => Below w23.heap.size w23 q ∧ Blk q (w.heap.size + 1) 28 #[.int .i64 F.sz, .slice A3 F.xs.length A3c] ∧ Blk q w.heap.size 25 #[.slice A1 S.bs.length A1c, .slice A2 S.ds.length A2c] ∧ Blk q aD 31 #[.slice none 0 0, .slice none 0 0] ∧ Blk q aE 34 #[.int .i64 0, .slice none 0 0] ∧ OwnFil lp (.agg #[.int .i64 F'.sz, .slice H3 F'.xs.length H3c]) F' q ∧ OwnSto lp (.agg #[.slice H1 S'.bs.length H1c, .slice H2 S'.ds.length H2c]) S' q ∧ w23.heap.size ≤ aD ∧ w23.heap.size ≤ aE ∧ w.heap.size ≤ lp)
        case use =>
         intro key_fwH_1_3_6_11_12
         apply memo_ananannnw (P := fun Y1 Y1c Y2 Y2c Y3 Y3c aD aE q => Below w23.heap.size w23 q ∧ Blk q (w.heap.size + 1) 28 #[.int .i64 F.sz, .slice A3 F.xs.length A3c] ∧ Blk q w.heap.size 25 #[.slice A1 S.bs.length A1c, .slice A2 S.ds.length A2c] ∧ Blk q aD 31 #[.slice none 0 0, .slice none 0 0] ∧ Blk q aE 34 #[.int .i64 0, .slice none 0 0] ∧ IsFil q (.agg #[.int .i64 F.sz, .slice Y3 F.xs.length Y3c]) F ∧ IsSto q (.agg #[.slice Y1 S.bs.length Y1c, .slice Y2 S.ds.length Y2c]) S ∧ w23.heap.size ≤ aD ∧ w23.heap.size ≤ aE)
         case use =>
          intro key_fwH_1_3_11_12
          apply memo_anananananannnw (P := fun H1 H1c H2 H2c H3 H3c Y1 Y1c Y2 Y2c Y3 Y3c aE lp q => Below w23.heap.size w23 q ∧ Blk q (w.heap.size + 1) 28 #[.int .i64 F.sz, .slice A3 F.xs.length A3c] ∧ Blk q w.heap.size 25 #[.slice A1 S.bs.length A1c, .slice A2 S.ds.length A2c] ∧ Blk q aE 34 #[.int .i64 0, .slice none 0 0] ∧ OwnFil lp (.agg #[.int .i64 F'.sz, .slice H3 F'.xs.length H3c]) F' q ∧ OwnSto lp (.agg #[.slice H1 S'.bs.length H1c, .slice H2 S'.ds.length H2c]) S' q ∧ w23.heap.size ≤ aE ∧ w.heap.size ≤ lp)
          case use =>
           intro key_fwH_1_3_6_12
           apply memo_anananananannnw (P := fun H1 H1c H2 H2c H3 H3c Y1 Y1c Y2 Y2c Y3 Y3c aD lp q => Below w23.heap.size w23 q ∧ Blk q (w.heap.size + 1) 28 #[.int .i64 F.sz, .slice A3 F.xs.length A3c] ∧ Blk q w.heap.size 25 #[.slice A1 S.bs.length A1c, .slice A2 S.ds.length A2c] ∧ Blk q aD 31 #[.slice none 0 0, .slice none 0 0] ∧ OwnFil lp (.agg #[.int .i64 F'.sz, .slice H3 F'.xs.length H3c]) F' q ∧ OwnSto lp (.agg #[.slice H1 S'.bs.length H1c, .slice H2 S'.ds.length H2c]) S' q ∧ w23.heap.size ≤ aD ∧ w.heap.size ≤ lp)
           case use =>
            intro key_fwH_1_3_6_11
            apply memo_anannnw (P := fun Y1 Y1c Y2 Y2c aD aE q => Below w23.heap.size w23 q ∧ Blk q (w.heap.size + 1) 28 #[.int .i64 F.sz, .slice A3 F.xs.length A3c] ∧ Blk q w.heap.size 25 #[.slice A1 S.bs.length A1c, .slice A2 S.ds.length A2c] ∧ Blk q aD 31 #[.slice none 0 0, .slice none 0 0] ∧ Blk q aE 34 #[.int .i64 0, .slice none 0 0] ∧ IsSto q (.agg #[.slice Y1 S.bs.length Y1c, .slice Y2 S.ds.length Y2c]) S ∧ w23.heap.size ≤ aD ∧ w23.heap.size ≤ aE)
            case use =>
             intro key_fwH_1_11_12
             apply memo_ananannw (P := fun Y1 Y1c Y2 Y2c Y3 Y3c aE q => Below w23.heap.size w23 q ∧ Blk q (w.heap.size + 1) 28 #[.int .i64 F.sz, .slice A3 F.xs.length A3c] ∧ Blk q w.heap.size 25 #[.slice A1 S.bs.length A1c, .slice A2 S.ds.length A2c] ∧ Blk q aE 34 #[.int .i64 0, .slice none 0 0] ∧ IsFil q (.agg #[.int .i64 F.sz, .slice Y3 F.xs.length Y3c]) F ∧ IsSto q (.agg #[.slice Y1 S.bs.length Y1c, .slice Y2 S.ds.length Y2c]) S ∧ w23.heap.size ≤ aE)
             case use =>
              intro key_fwH_1_3_12
              apply memo_ananannw (P := fun Y1 Y1c Y2 Y2c Y3 Y3c aD q => Below w23.heap.size w23 q ∧ Blk q (w.heap.size + 1) 28 #[.int .i64 F.sz, .slice A3 F.xs.length A3c] ∧ Blk q w.heap.size 25 #[.slice A1 S.bs.length A1c, .slice A2 S.ds.length A2c] ∧ Blk q aD 31 #[.slice none 0 0, .slice none 0 0] ∧ IsFil q (.agg #[.int .i64 F.sz, .slice Y3 F.xs.length Y3c]) F ∧ IsSto q (.agg #[.slice Y1 S.bs.length Y1c, .slice Y2 S.ds.length Y2c]) S ∧ w23.heap.size ≤ aD)
              case use =>
               intro key_fwH_1_3_11
               apply memo_anananananannw (P := fun H1 H1c H2 H2c H3 H3c Y1 Y1c Y2 Y2c Y3 Y3c lp q => Below w23.heap.size w23 q ∧ Blk q (w.heap.size + 1) 28 #[.int .i64 F.sz, .slice A3 F.xs.length A3c] ∧ Blk q w.heap.size 25 #[.slice A1 S.bs.length A1c, .slice A2 S.ds.length A2c] ∧ OwnFil lp (.agg #[.int .i64 F'.sz, .slice H3 F'.xs.length H3c]) F' q ∧ OwnSto lp (.agg #[.slice H1 S'.bs.length H1c, .slice H2 S'.ds.length H2c]) S' q ∧ w.heap.size ≤ lp)
               case use =>
                intro key_fwH_1_3_6
                apply memo_nnw (P := fun aD aE q => Below w23.heap.size w23 q ∧ Blk q (w.heap.size + 1) 28 #[.int .i64 F.sz, .slice A3 F.xs.length A3c] ∧ Blk q w.heap.size 25 #[.slice A1 S.bs.length A1c, .slice A2 S.ds.length A2c] ∧ Blk q aD 31 #[.slice none 0 0, .slice none 0 0] ∧ Blk q aE 34 #[.int .i64 0, .slice none 0 0] ∧ w23.heap.size ≤ aD ∧ w23.heap.size ≤ aE)
                case use =>
                 intro key_fwH_11_12
                 apply memo_anannw (P := fun Y1 Y1c Y2 Y2c aE q => Below w23.heap.size w23 q ∧ Blk q (w.heap.size + 1) 28 #[.int .i64 F.sz, .slice A3 F.xs.length A3c] ∧ Blk q w.heap.size 25 #[.slice A1 S.bs.length A1c, .slice A2 S.ds.length A2c] ∧ Blk q aE 34 #[.int .i64 0, .slice none 0 0] ∧ IsSto q (.agg #[.slice Y1 S.bs.length Y1c, .slice Y2 S.ds.length Y2c]) S ∧ w23.heap.size ≤ aE)
                 case use =>
                  intro key_fwH_1_12
                  apply memo_anannw (P := fun Y1 Y1c Y2 Y2c aD q => Below w23.heap.size w23 q ∧ Blk q (w.heap.size + 1) 28 #[.int .i64 F.sz, .slice A3 F.xs.length A3c] ∧ Blk q w.heap.size 25 #[.slice A1 S.bs.length A1c, .slice A2 S.ds.length A2c] ∧ Blk q aD 31 #[.slice none 0 0, .slice none 0 0] ∧ IsSto q (.agg #[.slice Y1 S.bs.length Y1c, .slice Y2 S.ds.length Y2c]) S ∧ w23.heap.size ≤ aD)
                  case use =>
                   intro key_fwH_1_11
                   apply memo_anananw (P := fun Y1 Y1c Y2 Y2c Y3 Y3c q => Below w23.heap.size w23 q ∧ Blk q (w.heap.size + 1) 28 #[.int .i64 F.sz, .slice A3 F.xs.length A3c] ∧ Blk q w.heap.size 25 #[.slice A1 S.bs.length A1c, .slice A2 S.ds.length A2c] ∧ IsFil q (.agg #[.int .i64 F.sz, .slice Y3 F.xs.length Y3c]) F ∧ IsSto q (.agg #[.slice Y1 S.bs.length Y1c, .slice Y2 S.ds.length Y2c]) S)
                   case use =>
                    intro key_fwH_1_3
                    apply memo_nw (P := fun aE q => Below w23.heap.size w23 q ∧ Blk q (w.heap.size + 1) 28 #[.int .i64 F.sz, .slice A3 F.xs.length A3c] ∧ Blk q w.heap.size 25 #[.slice A1 S.bs.length A1c, .slice A2 S.ds.length A2c] ∧ Blk q aE 34 #[.int .i64 0, .slice none 0 0] ∧ w23.heap.size ≤ aE)
                    case use =>
                     intro key_fwH_12
                     apply memo_nw (P := fun aD q => Below w23.heap.size w23 q ∧ Blk q (w.heap.size + 1) 28 #[.int .i64 F.sz, .slice A3 F.xs.length A3c] ∧ Blk q w.heap.size 25 #[.slice A1 S.bs.length A1c, .slice A2 S.ds.length A2c] ∧ Blk q aD 31 #[.slice none 0 0, .slice none 0 0] ∧ w23.heap.size ≤ aD)
                     case use =>
                      intro key_fwH_11
                      apply memo_ananw (P := fun Y1 Y1c Y2 Y2c q => Below w23.heap.size w23 q ∧ Blk q (w.heap.size + 1) 28 #[.int .i64 F.sz, .slice A3 F.xs.length A3c] ∧ Blk q w.heap.size 25 #[.slice A1 S.bs.length A1c, .slice A2 S.ds.length A2c] ∧ IsSto q (.agg #[.slice Y1 S.bs.length Y1c, .slice Y2 S.ds.length Y2c]) S)
                      case use =>
                       intro key_fwH_1
                       refine wpAnyH_take (i := 0) (oi := ?oi20001) (v := ?v20001) ?hi20001 ?hs20001 ?hf20001 ?hr20001 ?hQ20001 ?hy20001 ?hS20001 ?hrest20001
                       case hi20001 => (conv => lhs; simp only [List.getElem?_toArray, List.getElem?_cons_zero]); try exact rfl
                       case hs20001 => kernel_rfl
                       case hf20001 => kernel_rfl
                       case hr20001 => kernel_rfl
                       case hQ20001 => exact fun _ _ _ h => h
                       case hS20001 => exact S4 kAS kAF
                       case hy20001 => refine Or.inl ⟨by rfl, ?_⟩; intro w hSw; (try dsimp only at hSw); go_simp; (try with_reducible rfl)
                       simp only [Act.put, List.setIfInBounds_toArray, List.set_cons_zero, List.set_cons_succ]
                       refine wpAnyH_take (i := 2) (oi := ?oi20002) (v := ?v20002) ?hi20002 ?hs20002 ?hf20002 ?hr20002 ?hQ20002 ?hy20002 ?hS20002 ?hrest20002
                       case hi20002 => (conv => lhs; simp only [List.getElem?_toArray, List.getElem?_cons_zero, List.getElem?_cons_succ]); try exact rfl
                       case hs20002 => kernel_rfl
                       case hf20002 => kernel_rfl
                       case hr20002 => kernel_rfl
                       case hQ20002 => exact fun _ _ _ h => h
                       case hS20002 => exact S4 kAS kAF
                       case hy20002 => refine Or.inl ⟨by rfl, ?_⟩; intro w hSw; (try dsimp only at hSw); go_simp; (try with_reducible rfl)
                       simp only [Act.put, List.setIfInBounds_toArray, List.set_cons_zero, List.set_cons_succ]
                       refine wpAnyH_take (i := 4) (oi := ?oi20003) (v := ?v20003) ?hi20003 ?hs20003 ?hf20003 ?hr20003 ?hQ20003 ?hy20003 ?hS20003 ?hrest20003
                       case hi20003 => (conv => lhs; simp only [List.getElem?_toArray, List.getElem?_cons_zero, List.getElem?_cons_succ]); try exact rfl
                       case hs20003 => kernel_rfl
                       case hf20003 => kernel_rfl
                       case hr20003 => kernel_rfl
                       case hQ20003 => exact fun _ _ _ h => h
                       case hS20003 => exact S4 kAS kAF
                       case hy20003 => refine Or.inl ⟨by rfl, ?_⟩; intro w hSw; (try dsimp only at hSw); go_simp; (try with_reducible rfl)
                       simp only [Act.put, List.setIfInBounds_toArray, List.set_cons_zero, List.set_cons_succ]
                       refine wpAnyH_take (i := 5) (oi := ?oi20004) (v := ?v20004) ?hi20004 ?hs20004 ?hf20004 ?hr20004 ?hQ20004 ?hy20004 ?hS20004 ?hrest20004
                       case hi20004 => (conv => lhs; simp only [List.getElem?_toArray, List.getElem?_cons_zero, List.getElem?_cons_succ]); try exact rfl
                       case hs20004 => kernel_rfl
                       case hf20004 => kernel_rfl
                       case hr20004 => kernel_rfl
                       case hQ20004 => exact fun _ _ _ h => h
                       case hS20004 => exact S4 kAS kAF
                       case hy20004 => refine Or.inl ⟨by rfl, ?_⟩; intro w hSw; (try dsimp only at hSw); go_simp; (try with_reducible rfl)
                       simp only [Act.put, List.setIfInBounds_toArray, List.set_cons_zero, List.set_cons_succ]
                       refine wpAnyH_ready (rs := [1, 11, 12]) (by kernel_rfl) (by simp) ?_
                       refine AllReadyH.cons (o := ?oi20005) ?hi20005 (fun K hK => ?br20005) (AllReadyH.cons (o := ?oi20006) ?hi20006 (fun K hK => ?br20006) (AllReadyH.cons (o := ?oi20007) ?hi20007 (fun K hK => ?br20007) AllReadyH.nil))
                       case hi20005 => (conv => lhs; simp only [List.getElem?_toArray, List.getElem?_cons_zero, List.getElem?_cons_succ]); try exact rfl
                       case hi20006 => (conv => lhs; simp only [List.getElem?_toArray, List.getElem?_cons_zero, List.getElem?_cons_succ]); try exact rfl
                       case hi20007 => (conv => lhs; simp only [List.getElem?_toArray, List.getElem?_cons_zero, List.getElem?_cons_succ]); try exact rfl
                       case br20005 =>
                        go_simp
                        go_at_call 7
                        refine (toStore_is _ S HsmS.out _ (HSto.out _ (belN B23 bw))).mono ?_
                        rintro e q ⟨_, rfl, hOA, hb⟩
                        have bw2 := bw.trans (hb.mono bw.size)
                        have kAS2 := kAS.below hb kAS.lt
                        have kAF2 := kAF.below hb kAF.lt
                        obtain ⟨Y1, Y1c, Y2, Y2c, rfl, hy1, hy2⟩ := hOA.sto
                        have pY2 : IsSto q (.agg #[.slice Y1 S.bs.length Y1c, .slice Y2 S.ds.length Y2c]) S := ⟨_, _, _, _, rfl, hy1, hy2⟩
                        clear hOA hy1 hy2
                        refine hK.out _ _ (by exact S4 kAS2 kAF2) (fun _ => ?_)
                        clear hK K
                        try simp only [Act.put, List.setIfInBounds_toArray, List.set_cons_zero, List.set_cons_succ]
                        exact key_fwH_1 Y1 Y1c Y2 Y2c q ⟨bw2, kAF2, kAS2, pY2⟩
                       case br20006 =>
                        go_simp
                        refine hK.out _ _ (by exact S4 (kAS.alloc (.cells #[.slice none 0 0, .slice none 0 0] 31)) (kAF.alloc (.cells #[.slice none 0 0, .slice none 0 0] 31))) (fun _ => ?_)
                        clear hK K
                        try simp only [Act.put, List.setIfInBounds_toArray, List.set_cons_zero, List.set_cons_succ]
                        refine foldH ?_
                        intro q hq
                        obtain ⟨aD, ha⟩ : ∃ g, r.heap.size = g := ⟨_, rfl⟩
                        rw [ha]
                        have bw2 : Below w23.heap.size w23 q := by rw [hq]; exact belA bw _
                        have kAS2 : Blk q _ _ _ := hq ▸ kAS.alloc (.cells #[.slice none 0 0, .slice none 0 0] 31)
                        have kAF2 : Blk q _ _ _ := hq ▸ kAF.alloc (.cells #[.slice none 0 0, .slice none 0 0] 31)
                        have kD2 : Blk q aD 31 #[.slice none 0 0, .slice none 0 0] := by rw [hq, ← ha]; exact Blk.new' _ _ _ _ rfl
                        have laD : w23.heap.size ≤ aD := by rw [← ha]; exact bw.size
                        exact key_fwH_11 aD q ⟨bw2, kAF2, kAS2, kD2, laD⟩
                       case br20007 =>
                        go_simp
                        refine hK.out _ _ (by exact S4 (kAS.alloc (.cells #[.int .i64 0, .slice none 0 0] 34)) (kAF.alloc (.cells #[.int .i64 0, .slice none 0 0] 34))) (fun _ => ?_)
                        clear hK K
                        try simp only [Act.put, List.setIfInBounds_toArray, List.set_cons_zero, List.set_cons_succ]
                        refine foldH ?_
                        intro q hq
                        obtain ⟨aE, ha⟩ : ∃ g, r.heap.size = g := ⟨_, rfl⟩
                        rw [ha]
                        have bw2 : Below w23.heap.size w23 q := by rw [hq]; exact belA bw _
                        have kAS2 : Blk q _ _ _ := hq ▸ kAS.alloc (.cells #[.int .i64 0, .slice none 0 0] 34)
                        have kAF2 : Blk q _ _ _ := hq ▸ kAF.alloc (.cells #[.int .i64 0, .slice none 0 0] 34)
                        have kE2 : Blk q aE 34 #[.int .i64 0, .slice none 0 0] := by rw [hq, ← ha]; exact Blk.new' _ _ _ _ rfl
                        have laE : w23.heap.size ≤ aE := by rw [← ha]; exact bw.size
                        exact key_fwH_12 aE q ⟨bw2, kAF2, kAS2, kE2, laE⟩
                      case key =>
                       rintro Y1 Y1c Y2 Y2c r ⟨bw, kAF, kAS, pY⟩
                       try dsimp only
                       refine wpAnyH_ready (rs := [3, 11, 12]) (by kernel_rfl) (by simp) ?_
                       refine AllReadyH.cons (o := ?oi20008) ?hi20008 (fun K hK => ?br20008) (AllReadyH.cons (o := ?oi20009) ?hi20009 (fun K hK => ?br20009) (AllReadyH.cons (o := ?oi20010) ?hi20010 (fun K hK => ?br20010) AllReadyH.nil))
                       case hi20008 => (conv => lhs; simp only [List.getElem?_toArray, List.getElem?_cons_zero, List.getElem?_cons_succ]); try exact rfl
                       case hi20009 => (conv => lhs; simp only [List.getElem?_toArray, List.getElem?_cons_zero, List.getElem?_cons_succ]); try exact rfl
                       case hi20010 => (conv => lhs; simp only [List.getElem?_toArray, List.getElem?_cons_zero, List.getElem?_cons_succ]); try exact rfl
                       case br20008 =>
                        go_simp
                        go_at_call 8
                        refine (toFil_is _ F HsmF.out _ (HFil.out _ (belN B23 bw))).mono ?_
                        rintro e q ⟨_, rfl, hOB, hb⟩
                        have bw2 := bw.trans (hb.mono bw.size)
                        have kAS2 := kAS.below hb kAS.lt
                        have kAF2 := kAF.below hb kAF.lt
                        have pY2 := pY.next hb
                        obtain ⟨Y3, Y3c, rfl, hy1⟩ := hOB.fil
                        have pV2 : IsFil q (.agg #[.int .i64 F.sz, .slice Y3 F.xs.length Y3c]) F := ⟨_, _, rfl, hy1⟩
                        clear hOB hy1
                        refine hK.out _ _ (by exact S4 kAS2 kAF2) (fun _ => ?_)
                        clear hK K
                        try simp only [Act.put, List.setIfInBounds_toArray, List.set_cons_zero, List.set_cons_succ]
                        exact key_fwH_1_3 Y1 Y1c Y2 Y2c Y3 Y3c q ⟨bw2, kAF2, kAS2, pV2, pY2⟩
                       case br20009 =>
                        go_simp
                        refine hK.out _ _ (by exact S4 (kAS.alloc (.cells #[.slice none 0 0, .slice none 0 0] 31)) (kAF.alloc (.cells #[.slice none 0 0, .slice none 0 0] 31))) (fun _ => ?_)
                        clear hK K
                        try simp only [Act.put, List.setIfInBounds_toArray, List.set_cons_zero, List.set_cons_succ]
                        refine foldH ?_
                        intro q hq
                        obtain ⟨aD, ha⟩ : ∃ g, r.heap.size = g := ⟨_, rfl⟩
                        rw [ha]
                        have bw2 : Below w23.heap.size w23 q := by rw [hq]; exact belA bw _
                        have kAS2 : Blk q _ _ _ := hq ▸ kAS.alloc (.cells #[.slice none 0 0, .slice none 0 0] 31)
                        have kAF2 : Blk q _ _ _ := hq ▸ kAF.alloc (.cells #[.slice none 0 0, .slice none 0 0] 31)
                        have pY2 : IsSto q (.agg #[.slice Y1 S.bs.length Y1c, .slice Y2 S.ds.length Y2c]) S := by rw [hq]; exact pY.next (belA (bel0 _) _)
                        have kD2 : Blk q aD 31 #[.slice none 0 0, .slice none 0 0] := by rw [hq, ← ha]; exact Blk.new' _ _ _ _ rfl
                        have laD : w23.heap.size ≤ aD := by rw [← ha]; exact bw.size
                        exact key_fwH_1_11 Y1 Y1c Y2 Y2c aD q ⟨bw2, kAF2, kAS2, kD2, pY2, laD⟩
                       case br20010 =>
                        go_simp
                        refine hK.out _ _ (by exact S4 (kAS.alloc (.cells #[.int .i64 0, .slice none 0 0] 34)) (kAF.alloc (.cells #[.int .i64 0, .slice none 0 0] 34))) (fun _ => ?_)
                        clear hK K
                        try simp only [Act.put, List.setIfInBounds_toArray, List.set_cons_zero, List.set_cons_succ]
                        refine foldH ?_
                        intro q hq
                        obtain ⟨aE, ha⟩ : ∃ g, r.heap.size = g := ⟨_, rfl⟩
                        rw [ha]
                        have bw2 : Below w23.heap.size w23 q := by rw [hq]; exact belA bw _
                        have kAS2 : Blk q _ _ _ := hq ▸ kAS.alloc (.cells #[.int .i64 0, .slice none 0 0] 34)
                        have kAF2 : Blk q _ _ _ := hq ▸ kAF.alloc (.cells #[.int .i64 0, .slice none 0 0] 34)
                        have pY2 : IsSto q (.agg #[.slice Y1 S.bs.length Y1c, .slice Y2 S.ds.length Y2c]) S := by rw [hq]; exact pY.next (belA (bel0 _) _)
                        have kE2 : Blk q aE 34 #[.int .i64 0, .slice none 0 0] := by rw [hq, ← ha]; exact Blk.new' _ _ _ _ rfl
                        have laE : w23.heap.size ≤ aE := by rw [← ha]; exact bw.size
                        exact key_fwH_1_12 Y1 Y1c Y2 Y2c aE q ⟨bw2, kAF2, kAS2, kE2, pY2, laE⟩
                     case key =>
                      rintro aD r ⟨bw, kAF, kAS, kD, laD⟩
                      try dsimp only
                      refine wpAnyH_ready (rs := [1, 12]) (by kernel_rfl) (by simp) ?_
                      refine AllReadyH.cons (o := ?oi20011) ?hi20011 (fun K hK => ?br20011) (AllReadyH.cons (o := ?oi20012) ?hi20012 (fun K hK => ?br20012) AllReadyH.nil)
                      case hi20011 => (conv => lhs; simp only [List.getElem?_toArray, List.getElem?_cons_zero, List.getElem?_cons_succ]); try exact rfl
                      case hi20012 => (conv => lhs; simp only [List.getElem?_toArray, List.getElem?_cons_zero, List.getElem?_cons_succ]); try exact rfl
                      case br20011 =>
                       go_simp
                       go_at_call 7
                       refine (toStore_is _ S HsmS.out _ (HSto.out _ (belN B23 bw))).mono ?_
                       rintro e q ⟨_, rfl, hOA, hb⟩
                       have bw2 := bw.trans (hb.mono bw.size)
                       have kAS2 := kAS.below hb kAS.lt
                       have kAF2 := kAF.below hb kAF.lt
                       have kD2 := kD.below hb kD.lt
                       obtain ⟨Y1, Y1c, Y2, Y2c, rfl, hy1, hy2⟩ := hOA.sto
                       have pY2 : IsSto q (.agg #[.slice Y1 S.bs.length Y1c, .slice Y2 S.ds.length Y2c]) S := ⟨_, _, _, _, rfl, hy1, hy2⟩
                       clear hOA hy1 hy2
                       refine hK.out _ _ (by exact S4 kAS2 kAF2) (fun _ => ?_)
                       clear hK K
                       try simp only [Act.put, List.setIfInBounds_toArray, List.set_cons_zero, List.set_cons_succ]
                       exact key_fwH_1_11 Y1 Y1c Y2 Y2c aD q ⟨bw2, kAF2, kAS2, kD2, pY2, laD⟩
                      case br20012 =>
                       go_simp
                       refine hK.out _ _ (by exact S4 (kAS.alloc (.cells #[.int .i64 0, .slice none 0 0] 34)) (kAF.alloc (.cells #[.int .i64 0, .slice none 0 0] 34))) (fun _ => ?_)
                       clear hK K
                       try simp only [Act.put, List.setIfInBounds_toArray, List.set_cons_zero, List.set_cons_succ]
                       refine foldH ?_
                       intro q hq
                       obtain ⟨aE, ha⟩ : ∃ g, r.heap.size = g := ⟨_, rfl⟩
                       rw [ha]
                       have bw2 : Below w23.heap.size w23 q := by rw [hq]; exact belA bw _
                       have kAS2 : Blk q _ _ _ := hq ▸ kAS.alloc (.cells #[.int .i64 0, .slice none 0 0] 34)
                       have kAF2 : Blk q _ _ _ := hq ▸ kAF.alloc (.cells #[.int .i64 0, .slice none 0 0] 34)
                       have kD2 : Blk q _ _ _ := hq ▸ kD.alloc (.cells #[.int .i64 0, .slice none 0 0] 34)
                       have kE2 : Blk q aE 34 #[.int .i64 0, .slice none 0 0] := by rw [hq, ← ha]; exact Blk.new' _ _ _ _ rfl
                       have laE : w23.heap.size ≤ aE := by rw [← ha]; exact bw.size
                       exact key_fwH_11_12 aD aE q ⟨bw2, kAF2, kAS2, kD2, kE2, laD, laE⟩
                    case key =>
                     rintro aE r ⟨bw, kAF, kAS, kE, laE⟩
                     try dsimp only
                     refine wpAnyH_ready (rs := [1, 11]) (by kernel_rfl) (by simp) ?_
                     refine AllReadyH.cons (o := ?oi20013) ?hi20013 (fun K hK => ?br20013) (AllReadyH.cons (o := ?oi20014) ?hi20014 (fun K hK => ?br20014) AllReadyH.nil)
                     case hi20013 => (conv => lhs; simp only [List.getElem?_toArray, List.getElem?_cons_zero, List.getElem?_cons_succ]); try exact rfl
                     case hi20014 => (conv => lhs; simp only [List.getElem?_toArray, List.getElem?_cons_zero, List.getElem?_cons_succ]); try exact rfl
                     case br20013 =>
                      go_simp
                      go_at_call 7
                      refine (toStore_is _ S HsmS.out _ (HSto.out _ (belN B23 bw))).mono ?_
                      rintro e q ⟨_, rfl, hOA, hb⟩
                      have bw2 := bw.trans (hb.mono bw.size)
                      have kAS2 := kAS.below hb kAS.lt
                      have kAF2 := kAF.below hb kAF.lt
                      have kE2 := kE.below hb kE.lt
                      obtain ⟨Y1, Y1c, Y2, Y2c, rfl, hy1, hy2⟩ := hOA.sto
                      have pY2 : IsSto q (.agg #[.slice Y1 S.bs.length Y1c, .slice Y2 S.ds.length Y2c]) S := ⟨_, _, _, _, rfl, hy1, hy2⟩
                      clear hOA hy1 hy2
                      refine hK.out _ _ (by exact S4 kAS2 kAF2) (fun _ => ?_)
                      clear hK K
                      try simp only [Act.put, List.setIfInBounds_toArray, List.set_cons_zero, List.set_cons_succ]
                      exact key_fwH_1_12 Y1 Y1c Y2 Y2c aE q ⟨bw2, kAF2, kAS2, kE2, pY2, laE⟩
                     case br20014 =>
                      go_simp
                      refine hK.out _ _ (by exact S4 (kAS.alloc (.cells #[.slice none 0 0, .slice none 0 0] 31)) (kAF.alloc (.cells #[.slice none 0 0, .slice none 0 0] 31))) (fun _ => ?_)
                      clear hK K
                      try simp only [Act.put, List.setIfInBounds_toArray, List.set_cons_zero, List.set_cons_succ]
                      refine foldH ?_
                      intro q hq
                      obtain ⟨aD, ha⟩ : ∃ g, r.heap.size = g := ⟨_, rfl⟩
                      rw [ha]
                      have bw2 : Below w23.heap.size w23 q := by rw [hq]; exact belA bw _
                      have kAS2 : Blk q _ _ _ := hq ▸ kAS.alloc (.cells #[.slice none 0 0, .slice none 0 0] 31)
                      have kAF2 : Blk q _ _ _ := hq ▸ kAF.alloc (.cells #[.slice none 0 0, .slice none 0 0] 31)
                      have kE2 : Blk q _ _ _ := hq ▸ kE.alloc (.cells #[.slice none 0 0, .slice none 0 0] 31)
                      have kD2 : Blk q aD 31 #[.slice none 0 0, .slice none 0 0] := by rw [hq, ← ha]; exact Blk.new' _ _ _ _ rfl
                      have laD : w23.heap.size ≤ aD := by rw [← ha]; exact bw.size
                      exact key_fwH_11_12 aD aE q ⟨bw2, kAF2, kAS2, kD2, kE2, laD, laE⟩
                   case key =>
                    rintro Y1 Y1c Y2 Y2c Y3 Y3c r ⟨bw, kAF, kAS, pV, pY⟩
                    try dsimp only
                    refine wpAnyH_ready (rs := [6, 11, 12]) (by kernel_rfl) (by simp) ?_
                    refine AllReadyH.cons (o := ?oi20015) ?hi20015 (fun K hK => ?br20015) (AllReadyH.cons (o := ?oi20016) ?hi20016 (fun K hK => ?br20016) (AllReadyH.cons (o := ?oi20017) ?hi20017 (fun K hK => ?br20017) AllReadyH.nil))
                    case hi20015 => (conv => lhs; simp only [List.getElem?_toArray, List.getElem?_cons_zero, List.getElem?_cons_succ]); try exact rfl
                    case hi20016 => (conv => lhs; simp only [List.getElem?_toArray, List.getElem?_cons_zero, List.getElem?_cons_succ]); try exact rfl
                    case hi20017 => (conv => lhs; simp only [List.getElem?_toArray, List.getElem?_cons_zero, List.getElem?_cons_succ]); try exact rfl
                    case br20015 =>
                     go_simp
                     go_at_call 9
                     refine (filWrite_impl _ _ S F HsmS.out HsmF.out off data hd2 HP.out _ pY pV).mono ?_
                     rintro e q ⟨_, _, rfl, hCS, hCF, hb⟩
                     have bw2 := bw.trans (hb.mono bw.size)
                     have kAS2 := kAS.below hb kAS.lt
                     have kAF2 := kAF.below hb kAF.lt
                     obtain ⟨lp, hlp⟩ : ∃ l, r.heap.size = l := ⟨_, rfl⟩
                     rw [hlp] at hCS hCF
                     have lpf : w.heap.size ≤ lp := by rw [← hlp]; exact Nat.le_trans B23.size bw.size
                     obtain ⟨_, _, rfl, oa, ob⟩ := hCS
                     obtain ⟨H1, H1c, rfl, _, _, _⟩ := own_vals oa
                     obtain ⟨H2, H2c, rfl, _, _, _⟩ := own_vals ob
                     obtain ⟨_, rfl, oc⟩ := hCF
                     obtain ⟨H3, H3c, rfl, _, _, _⟩ := own_vals oc
                     have pS2 : OwnSto lp (.agg #[.slice H1 S'.bs.length H1c, .slice H2 S'.ds.length H2c]) S' q := ⟨_, _, rfl, oa, ob⟩
                     have pF2 : OwnFil lp (.agg #[.int .i64 F'.sz, .slice H3 F'.xs.length H3c]) F' q := ⟨_, rfl, oc⟩
                     clear oa ob oc hlp
                     refine hK.out _ _ (by exact S4 kAS2 kAF2) (fun _ => ?_)
                     clear hK K
                     try simp only [Act.put, List.setIfInBounds_toArray, List.set_cons_zero, List.set_cons_succ]
                     refine wpAnyH_take (i := 7) (oi := ?oi20018) (v := ?v20018) ?hi20018 ?hs20018 ?hf20018 ?hr20018 ?hQ20018 ?hy20018 ?hS20018 ?hrest20018
                     case hi20018 => (conv => lhs; simp only [List.getElem?_toArray, List.getElem?_cons_zero, List.getElem?_cons_succ]); try exact rfl
                     case hs20018 => kernel_rfl
                     case hf20018 => kernel_rfl
                     case hr20018 => kernel_rfl
                     case hQ20018 => exact fun _ _ _ h => h
                     case hS20018 => exact S4 kAS2 kAF2
                     case hy20018 => refine Or.inl ⟨by rfl, ?_⟩; intro w hSw; (try dsimp only at hSw); go_simp; (try with_reducible rfl)
                     simp only [Act.put, List.setIfInBounds_toArray, List.set_cons_zero, List.set_cons_succ]
                     refine wpAnyH_take (i := 8) (oi := ?oi20019) (v := ?v20019) ?hi20019 ?hs20019 ?hf20019 ?hr20019 ?hQ20019 ?hy20019 ?hS20019 ?hrest20019
                     case hi20019 => (conv => lhs; simp only [List.getElem?_toArray, List.getElem?_cons_zero, List.getElem?_cons_succ]); try exact rfl
                     case hs20019 => kernel_rfl
                     case hf20019 => kernel_rfl
                     case hr20019 => kernel_rfl
                     case hQ20019 => exact fun _ _ _ h => h
                     case hS20019 => exact S4 kAS2 kAF2
                     case hy20019 => refine Or.inl ⟨by rfl, ?_⟩; intro w hSw; (try dsimp only at hSw); go_simp; (try with_reducible rfl)
                     simp only [Act.put, List.setIfInBounds_toArray, List.set_cons_zero, List.set_cons_succ]
                     refine wpAnyH_take (i := 9) (oi := ?oi20020) (v := ?v20020) ?hi20020 ?hs20020 ?hf20020 ?hr20020 ?hQ20020 ?hy20020 ?hS20020 ?hrest20020
                     case hi20020 => (conv => lhs; simp only [List.getElem?_toArray, List.getElem?_cons_zero, List.getElem?_cons_succ]); try exact rfl
                     case hs20020 => kernel_rfl
                     case hf20020 => kernel_rfl
                     case hr20020 => kernel_rfl
                     case hQ20020 => exact fun _ _ _ h => h
                     case hS20020 => exact S4 kAS2 kAF2
                     case hy20020 => refine Or.inl ⟨by rfl, ?_⟩; intro w hSw; (try dsimp only at hSw); go_simp; (try with_reducible rfl)
                     simp only [Act.put, List.setIfInBounds_toArray, List.set_cons_zero, List.set_cons_succ]
                     refine wpAnyH_take (i := 10) (oi := ?oi20021) (v := ?v20021) ?hi20021 ?hs20021 ?hf20021 ?hr20021 ?hQ20021 ?hy20021 ?hS20021 ?hrest20021
                     case hi20021 => (conv => lhs; simp only [List.getElem?_toArray, List.getElem?_cons_zero, List.getElem?_cons_succ]); try exact rfl
                     case hs20021 => kernel_rfl
                     case hf20021 => kernel_rfl
                     case hr20021 => kernel_rfl
                     case hQ20021 => exact fun _ _ _ h => h
                     case hS20021 => exact S4 kAS2 kAF2
                     case hy20021 => refine Or.inl ⟨by rfl, ?_⟩; intro w hSw; (try dsimp only at hSw); go_simp; (try with_reducible rfl)
                     simp only [Act.put, List.setIfInBounds_toArray, List.set_cons_zero, List.set_cons_succ]
                     exact key_fwH_1_3_6 H1 H1c H2 H2c H3 H3c Y1 Y1c Y2 Y2c Y3 Y3c lp q ⟨bw2, kAF2, kAS2, pF2, pS2, lpf⟩
                    case br20016 =>
                     go_simp
                     refine hK.out _ _ (by exact S4 (kAS.alloc (.cells #[.slice none 0 0, .slice none 0 0] 31)) (kAF.alloc (.cells #[.slice none 0 0, .slice none 0 0] 31))) (fun _ => ?_)
                     clear hK K
                     try simp only [Act.put, List.setIfInBounds_toArray, List.set_cons_zero, List.set_cons_succ]
                     refine foldH ?_
                     intro q hq
                     obtain ⟨aD, ha⟩ : ∃ g, r.heap.size = g := ⟨_, rfl⟩
                     rw [ha]
                     have bw2 : Below w23.heap.size w23 q := by rw [hq]; exact belA bw _
                     have kAS2 : Blk q _ _ _ := hq ▸ kAS.alloc (.cells #[.slice none 0 0, .slice none 0 0] 31)
                     have kAF2 : Blk q _ _ _ := hq ▸ kAF.alloc (.cells #[.slice none 0 0, .slice none 0 0] 31)
                     have pY2 : IsSto q (.agg #[.slice Y1 S.bs.length Y1c, .slice Y2 S.ds.length Y2c]) S := by rw [hq]; exact pY.next (belA (bel0 _) _)
                     have pV2 : IsFil q (.agg #[.int .i64 F.sz, .slice Y3 F.xs.length Y3c]) F := by rw [hq]; exact pV.next (belA (bel0 _) _)
                     have kD2 : Blk q aD 31 #[.slice none 0 0, .slice none 0 0] := by rw [hq, ← ha]; exact Blk.new' _ _ _ _ rfl
                     have laD : w23.heap.size ≤ aD := by rw [← ha]; exact bw.size
                     exact key_fwH_1_3_11 Y1 Y1c Y2 Y2c Y3 Y3c aD q ⟨bw2, kAF2, kAS2, kD2, pV2, pY2, laD⟩
                    case br20017 =>
                     go_simp
                     refine hK.out _ _ (by exact S4 (kAS.alloc (.cells #[.int .i64 0, .slice none 0 0] 34)) (kAF.alloc (.cells #[.int .i64 0, .slice none 0 0] 34))) (fun _ => ?_)
                     clear hK K
                     try simp only [Act.put, List.setIfInBounds_toArray, List.set_cons_zero, List.set_cons_succ]
                     refine foldH ?_
                     intro q hq
                     obtain ⟨aE, ha⟩ : ∃ g, r.heap.size = g := ⟨_, rfl⟩
                     rw [ha]
                     have bw2 : Below w23.heap.size w23 q := by rw [hq]; exact belA bw _
                     have kAS2 : Blk q _ _ _ := hq ▸ kAS.alloc (.cells #[.int .i64 0, .slice none 0 0] 34)
                     have kAF2 : Blk q _ _ _ := hq ▸ kAF.alloc (.cells #[.int .i64 0, .slice none 0 0] 34)
                     have pY2 : IsSto q (.agg #[.slice Y1 S.bs.length Y1c, .slice Y2 S.ds.length Y2c]) S := by rw [hq]; exact pY.next (belA (bel0 _) _)
                     have pV2 : IsFil q (.agg #[.int .i64 F.sz, .slice Y3 F.xs.length Y3c]) F := by rw [hq]; exact pV.next (belA (bel0 _) _)
                     have kE2 : Blk q aE 34 #[.int .i64 0, .slice none 0 0] := by rw [hq, ← ha]; exact Blk.new' _ _ _ _ rfl
                     have laE : w23.heap.size ≤ aE := by rw [← ha]; exact bw.size
                     exact key_fwH_1_3_12 Y1 Y1c Y2 Y2c Y3 Y3c aE q ⟨bw2, kAF2, kAS2, kE2, pV2, pY2, laE⟩
                  case key =>
                   rintro Y1 Y1c Y2 Y2c aD r ⟨bw, kAF, kAS, kD, pY, laD⟩
                   try dsimp only
                   refine wpAnyH_ready (rs := [3, 12]) (by kernel_rfl) (by simp) ?_
                   refine AllReadyH.cons (o := ?oi20022) ?hi20022 (fun K hK => ?br20022) (AllReadyH.cons (o := ?oi20023) ?hi20023 (fun K hK => ?br20023) AllReadyH.nil)
                   case hi20022 => (conv => lhs; simp only [List.getElem?_toArray, List.getElem?_cons_zero, List.getElem?_cons_succ]); try exact rfl
                   case hi20023 => (conv => lhs; simp only [List.getElem?_toArray, List.getElem?_cons_zero, List.getElem?_cons_succ]); try exact rfl
                   case br20022 =>
                    go_simp
                    go_at_call 8
                    refine (toFil_is _ F HsmF.out _ (HFil.out _ (belN B23 bw))).mono ?_
                    rintro e q ⟨_, rfl, hOB, hb⟩
                    have bw2 := bw.trans (hb.mono bw.size)
                    have kAS2 := kAS.below hb kAS.lt
                    have kAF2 := kAF.below hb kAF.lt
                    have kD2 := kD.below hb kD.lt
                    have pY2 := pY.next hb
                    obtain ⟨Y3, Y3c, rfl, hy1⟩ := hOB.fil
                    have pV2 : IsFil q (.agg #[.int .i64 F.sz, .slice Y3 F.xs.length Y3c]) F := ⟨_, _, rfl, hy1⟩
                    clear hOB hy1
                    refine hK.out _ _ (by exact S4 kAS2 kAF2) (fun _ => ?_)
                    clear hK K
                    try simp only [Act.put, List.setIfInBounds_toArray, List.set_cons_zero, List.set_cons_succ]
                    exact key_fwH_1_3_11 Y1 Y1c Y2 Y2c Y3 Y3c aD q ⟨bw2, kAF2, kAS2, kD2, pV2, pY2, laD⟩
                   case br20023 =>
                    go_simp
                    refine hK.out _ _ (by exact S4 (kAS.alloc (.cells #[.int .i64 0, .slice none 0 0] 34)) (kAF.alloc (.cells #[.int .i64 0, .slice none 0 0] 34))) (fun _ => ?_)
                    clear hK K
                    try simp only [Act.put, List.setIfInBounds_toArray, List.set_cons_zero, List.set_cons_succ]
                    refine foldH ?_
                    intro q hq
                    obtain ⟨aE, ha⟩ : ∃ g, r.heap.size = g := ⟨_, rfl⟩
                    rw [ha]
                    have bw2 : Below w23.heap.size w23 q := by rw [hq]; exact belA bw _
                    have kAS2 : Blk q _ _ _ := hq ▸ kAS.alloc (.cells #[.int .i64 0, .slice none 0 0] 34)
                    have kAF2 : Blk q _ _ _ := hq ▸ kAF.alloc (.cells #[.int .i64 0, .slice none 0 0] 34)
                    have kD2 : Blk q _ _ _ := hq ▸ kD.alloc (.cells #[.int .i64 0, .slice none 0 0] 34)
                    have pY2 : IsSto q (.agg #[.slice Y1 S.bs.length Y1c, .slice Y2 S.ds.length Y2c]) S := by rw [hq]; exact pY.next (belA (bel0 _) _)
                    have kE2 : Blk q aE 34 #[.int .i64 0, .slice none 0 0] := by rw [hq, ← ha]; exact Blk.new' _ _ _ _ rfl
                    have laE : w23.heap.size ≤ aE := by rw [← ha]; exact bw.size
                    exact key_fwH_1_11_12 Y1 Y1c Y2 Y2c aD aE q ⟨bw2, kAF2, kAS2, kD2, kE2, pY2, laD, laE⟩
                 case key =>
                  rintro Y1 Y1c Y2 Y2c aE r ⟨bw, kAF, kAS, kE, pY, laE⟩
                  try dsimp only
                  refine wpAnyH_ready (rs := [3, 11]) (by kernel_rfl) (by simp) ?_
                  refine AllReadyH.cons (o := ?oi20024) ?hi20024 (fun K hK => ?br20024) (AllReadyH.cons (o := ?oi20025) ?hi20025 (fun K hK => ?br20025) AllReadyH.nil)
                  case hi20024 => (conv => lhs; simp only [List.getElem?_toArray, List.getElem?_cons_zero, List.getElem?_cons_succ]); try exact rfl
                  case hi20025 => (conv => lhs; simp only [List.getElem?_toArray, List.getElem?_cons_zero, List.getElem?_cons_succ]); try exact rfl
                  case br20024 =>
                   go_simp
                   go_at_call 8
                   refine (toFil_is _ F HsmF.out _ (HFil.out _ (belN B23 bw))).mono ?_
                   rintro e q ⟨_, rfl, hOB, hb⟩
                   have bw2 := bw.trans (hb.mono bw.size)
                   have kAS2 := kAS.below hb kAS.lt
                   have kAF2 := kAF.below hb kAF.lt
                   have kE2 := kE.below hb kE.lt
                   have pY2 := pY.next hb
                   obtain ⟨Y3, Y3c, rfl, hy1⟩ := hOB.fil
                   have pV2 : IsFil q (.agg #[.int .i64 F.sz, .slice Y3 F.xs.length Y3c]) F := ⟨_, _, rfl, hy1⟩
                   clear hOB hy1
                   refine hK.out _ _ (by exact S4 kAS2 kAF2) (fun _ => ?_)
                   clear hK K
                   try simp only [Act.put, List.setIfInBounds_toArray, List.set_cons_zero, List.set_cons_succ]
                   exact key_fwH_1_3_12 Y1 Y1c Y2 Y2c Y3 Y3c aE q ⟨bw2, kAF2, kAS2, kE2, pV2, pY2, laE⟩
                  case br20025 =>
                   go_simp
                   refine hK.out _ _ (by exact S4 (kAS.alloc (.cells #[.slice none 0 0, .slice none 0 0] 31)) (kAF.alloc (.cells #[.slice none 0 0, .slice none 0 0] 31))) (fun _ => ?_)
                   clear hK K
                   try simp only [Act.put, List.setIfInBounds_toArray, List.set_cons_zero, List.set_cons_succ]
                   refine foldH ?_
                   intro q hq
                   obtain ⟨aD, ha⟩ : ∃ g, r.heap.size = g := ⟨_, rfl⟩
                   rw [ha]
                   have bw2 : Below w23.heap.size w23 q := by rw [hq]; exact belA bw _
                   have kAS2 : Blk q _ _ _ := hq ▸ kAS.alloc (.cells #[.slice none 0 0, .slice none 0 0] 31)
                   have kAF2 : Blk q _ _ _ := hq ▸ kAF.alloc (.cells #[.slice none 0 0, .slice none 0 0] 31)
                   have kE2 : Blk q _ _ _ := hq ▸ kE.alloc (.cells #[.slice none 0 0, .slice none 0 0] 31)
                   have pY2 : IsSto q (.agg #[.slice Y1 S.bs.length Y1c, .slice Y2 S.ds.length Y2c]) S := by rw [hq]; exact pY.next (belA (bel0 _) _)
                   have kD2 : Blk q aD 31 #[.slice none 0 0, .slice none 0 0] := by rw [hq, ← ha]; exact Blk.new' _ _ _ _ rfl
                   have laD : w23.heap.size ≤ aD := by rw [← ha]; exact bw.size
                   exact key_fwH_1_11_12 Y1 Y1c Y2 Y2c aD aE q ⟨bw2, kAF2, kAS2, kD2, kE2, pY2, laD, laE⟩
                case key =>
                 rintro aD aE r ⟨bw, kAF, kAS, kD, kE, laD, laE⟩
                 try dsimp only
                 refine wpAnyH_ready (rs := [1]) (by kernel_rfl) (by simp) ?_
                 refine AllReadyH.cons (o := ?oi20026) ?hi20026 (fun K hK => ?br20026) AllReadyH.nil
                 case hi20026 => (conv => lhs; simp only [List.getElem?_toArray, List.getElem?_cons_zero, List.getElem?_cons_succ]); try exact rfl
                 case br20026 =>
                  go_simp
                  go_at_call 7
                  refine (toStore_is _ S HsmS.out _ (HSto.out _ (belN B23 bw))).mono ?_
                  rintro e q ⟨_, rfl, hOA, hb⟩
                  have bw2 := bw.trans (hb.mono bw.size)
                  have kAS2 := kAS.below hb kAS.lt
                  have kAF2 := kAF.below hb kAF.lt
                  have kD2 := kD.below hb kD.lt
                  have kE2 := kE.below hb kE.lt
                  obtain ⟨Y1, Y1c, Y2, Y2c, rfl, hy1, hy2⟩ := hOA.sto
                  have pY2 : IsSto q (.agg #[.slice Y1 S.bs.length Y1c, .slice Y2 S.ds.length Y2c]) S := ⟨_, _, _, _, rfl, hy1, hy2⟩
                  clear hOA hy1 hy2
                  refine hK.out _ _ (by exact S4 kAS2 kAF2) (fun _ => ?_)
                  clear hK K
                  try simp only [Act.put, List.setIfInBounds_toArray, List.set_cons_zero, List.set_cons_succ]
                  exact key_fwH_1_11_12 Y1 Y1c Y2 Y2c aD aE q ⟨bw2, kAF2, kAS2, kD2, kE2, pY2, laD, laE⟩
               case key =>
                rintro H1 H1c H2 H2c H3 H3c Y1 Y1c Y2 Y2c Y3 Y3c lp r ⟨bw, kAF, kAS, pF, pS, lpf⟩
                try dsimp only
                refine wpAnyH_ready (rs := [11, 12]) (by kernel_rfl) (by simp) ?_
                refine AllReadyH.cons (o := ?oi20027) ?hi20027 (fun K hK => ?br20027) (AllReadyH.cons (o := ?oi20028) ?hi20028 (fun K hK => ?br20028) AllReadyH.nil)
                case hi20027 => (conv => lhs; simp only [List.getElem?_toArray, List.getElem?_cons_zero, List.getElem?_cons_succ]); try exact rfl
                case hi20028 => (conv => lhs; simp only [List.getElem?_toArray, List.getElem?_cons_zero, List.getElem?_cons_succ]); try exact rfl
                case br20027 =>
                 go_simp
                 refine hK.out _ _ (by exact S4 (kAS.alloc (.cells #[.slice none 0 0, .slice none 0 0] 31)) (kAF.alloc (.cells #[.slice none 0 0, .slice none 0 0] 31))) (fun _ => ?_)
                 clear hK K
                 try simp only [Act.put, List.setIfInBounds_toArray, List.set_cons_zero, List.set_cons_succ]
                 refine foldH ?_
                 intro q hq
                 obtain ⟨aD, ha⟩ : ∃ g, r.heap.size = g := ⟨_, rfl⟩
                 rw [ha]
                 have bw2 : Below w23.heap.size w23 q := by rw [hq]; exact belA bw _
                 have kAS2 : Blk q _ _ _ := hq ▸ kAS.alloc (.cells #[.slice none 0 0, .slice none 0 0] 31)
                 have kAF2 : Blk q _ _ _ := hq ▸ kAF.alloc (.cells #[.slice none 0 0, .slice none 0 0] 31)
                 have pS2 : OwnSto lp (.agg #[.slice H1 S'.bs.length H1c, .slice H2 S'.ds.length H2c]) S' q := by rw [hq]; exact pS.next (belA (bel0 _) _)
                 have pF2 : OwnFil lp (.agg #[.int .i64 F'.sz, .slice H3 F'.xs.length H3c]) F' q := by rw [hq]; exact pF.next (belA (bel0 _) _)
                 have kD2 : Blk q aD 31 #[.slice none 0 0, .slice none 0 0] := by rw [hq, ← ha]; exact Blk.new' _ _ _ _ rfl
                 have laD : w23.heap.size ≤ aD := by rw [← ha]; exact bw.size
                 exact key_fwH_1_3_6_11 H1 H1c H2 H2c H3 H3c Y1 Y1c Y2 Y2c Y3 Y3c aD lp q ⟨bw2, kAF2, kAS2, kD2, pF2, pS2, laD, lpf⟩
                case br20028 =>
                 go_simp
                 refine hK.out _ _ (by exact S4 (kAS.alloc (.cells #[.int .i64 0, .slice none 0 0] 34)) (kAF.alloc (.cells #[.int .i64 0, .slice none 0 0] 34))) (fun _ => ?_)
                 clear hK K
                 try simp only [Act.put, List.setIfInBounds_toArray, List.set_cons_zero, List.set_cons_succ]
                 refine foldH ?_
                 intro q hq
                 obtain ⟨aE, ha⟩ : ∃ g, r.heap.size = g := ⟨_, rfl⟩
                 rw [ha]
                 have bw2 : Below w23.heap.size w23 q := by rw [hq]; exact belA bw _
                 have kAS2 : Blk q _ _ _ := hq ▸ kAS.alloc (.cells #[.int .i64 0, .slice none 0 0] 34)
                 have kAF2 : Blk q _ _ _ := hq ▸ kAF.alloc (.cells #[.int .i64 0, .slice none 0 0] 34)
                 have pS2 : OwnSto lp (.agg #[.slice H1 S'.bs.length H1c, .slice H2 S'.ds.length H2c]) S' q := by rw [hq]; exact pS.next (belA (bel0 _) _)
                 have pF2 : OwnFil lp (.agg #[.int .i64 F'.sz, .slice H3 F'.xs.length H3c]) F' q := by rw [hq]; exact pF.next (belA (bel0 _) _)
                 have kE2 : Blk q aE 34 #[.int .i64 0, .slice none 0 0] := by rw [hq, ← ha]; exact Blk.new' _ _ _ _ rfl
                 have laE : w23.heap.size ≤ aE := by rw [← ha]; exact bw.size
                 exact key_fwH_1_3_6_12 H1 H1c H2 H2c H3 H3c Y1 Y1c Y2 Y2c Y3 Y3c aE lp q ⟨bw2, kAF2, kAS2, kE2, pF2, pS2, laE, lpf⟩
              case key =>
               rintro Y1 Y1c Y2 Y2c Y3 Y3c aD r ⟨bw, kAF, kAS, kD, pV, pY, laD⟩
               try dsimp only
               refine wpAnyH_ready (rs := [6, 12]) (by kernel_rfl) (by simp) ?_
               refine AllReadyH.cons (o := ?oi20029) ?hi20029 (fun K hK => ?br20029) (AllReadyH.cons (o := ?oi20030) ?hi20030 (fun K hK => ?br20030) AllReadyH.nil)
               case hi20029 => (conv => lhs; simp only [List.getElem?_toArray, List.getElem?_cons_zero, List.getElem?_cons_succ]); try exact rfl
               case hi20030 => (conv => lhs; simp only [List.getElem?_toArray, List.getElem?_cons_zero, List.getElem?_cons_succ]); try exact rfl
               case br20029 =>
                go_simp
                go_at_call 9
                refine (filWrite_impl _ _ S F HsmS.out HsmF.out off data hd2 HP.out _ pY pV).mono ?_
                rintro e q ⟨_, _, rfl, hCS, hCF, hb⟩
                have bw2 := bw.trans (hb.mono bw.size)
                have kAS2 := kAS.below hb kAS.lt
                have kAF2 := kAF.below hb kAF.lt
                have kD2 := kD.below hb kD.lt
                obtain ⟨lp, hlp⟩ : ∃ l, r.heap.size = l := ⟨_, rfl⟩
                rw [hlp] at hCS hCF
                have lpf : w.heap.size ≤ lp := by rw [← hlp]; exact Nat.le_trans B23.size bw.size
                obtain ⟨_, _, rfl, oa, ob⟩ := hCS
                obtain ⟨H1, H1c, rfl, _, _, _⟩ := own_vals oa
                obtain ⟨H2, H2c, rfl, _, _, _⟩ := own_vals ob
                obtain ⟨_, rfl, oc⟩ := hCF
                obtain ⟨H3, H3c, rfl, _, _, _⟩ := own_vals oc
                have pS2 : OwnSto lp (.agg #[.slice H1 S'.bs.length H1c, .slice H2 S'.ds.length H2c]) S' q := ⟨_, _, rfl, oa, ob⟩
                have pF2 : OwnFil lp (.agg #[.int .i64 F'.sz, .slice H3 F'.xs.length H3c]) F' q := ⟨_, rfl, oc⟩
                clear oa ob oc hlp
                refine hK.out _ _ (by exact S4 kAS2 kAF2) (fun _ => ?_)
                clear hK K
                try simp only [Act.put, List.setIfInBounds_toArray, List.set_cons_zero, List.set_cons_succ]
                refine wpAnyH_take (i := 7) (oi := ?oi20031) (v := ?v20031) ?hi20031 ?hs20031 ?hf20031 ?hr20031 ?hQ20031 ?hy20031 ?hS20031 ?hrest20031
                case hi20031 => (conv => lhs; simp only [List.getElem?_toArray, List.getElem?_cons_zero, List.getElem?_cons_succ]); try exact rfl
                case hs20031 => kernel_rfl
                case hf20031 => kernel_rfl
                case hr20031 => kernel_rfl
                case hQ20031 => exact fun _ _ _ h => h
                case hS20031 => exact S4 kAS2 kAF2
                case hy20031 => refine Or.inl ⟨by rfl, ?_⟩; intro w hSw; (try dsimp only at hSw); go_simp; (try with_reducible rfl)
                simp only [Act.put, List.setIfInBounds_toArray, List.set_cons_zero, List.set_cons_succ]
                refine wpAnyH_take (i := 8) (oi := ?oi20032) (v := ?v20032) ?hi20032 ?hs20032 ?hf20032 ?hr20032 ?hQ20032 ?hy20032 ?hS20032 ?hrest20032
                case hi20032 => (conv => lhs; simp only [List.getElem?_toArray, List.getElem?_cons_zero, List.getElem?_cons_succ]); try exact rfl
                case hs20032 => kernel_rfl
                case hf20032 => kernel_rfl
                case hr20032 => kernel_rfl
                case hQ20032 => exact fun _ _ _ h => h
                case hS20032 => exact S4 kAS2 kAF2
                case hy20032 => refine Or.inl ⟨by rfl, ?_⟩; intro w hSw; (try dsimp only at hSw); go_simp; (try with_reducible rfl)
                simp only [Act.put, List.setIfInBounds_toArray, List.set_cons_zero, List.set_cons_succ]
                refine wpAnyH_take (i := 9) (oi := ?oi20033) (v := ?v20033) ?hi20033 ?hs20033 ?hf20033 ?hr20033 ?hQ20033 ?hy20033 ?hS20033 ?hrest20033
                case hi20033 => (conv => lhs; simp only [List.getElem?_toArray, List.getElem?_cons_zero, List.getElem?_cons_succ]); try exact rfl
                case hs20033 => kernel_rfl
                case hf20033 => kernel_rfl
                case hr20033 => kernel_rfl
                case hQ20033 => exact fun _ _ _ h => h
                case hS20033 => exact S4 kAS2 kAF2
                case hy20033 => refine Or.inl ⟨by rfl, ?_⟩; intro w hSw; (try dsimp only at hSw); go_simp; (try with_reducible rfl)
                simp only [Act.put, List.setIfInBounds_toArray, List.set_cons_zero, List.set_cons_succ]
                refine wpAnyH_take (i := 10) (oi := ?oi20034) (v := ?v20034) ?hi20034 ?hs20034 ?hf20034 ?hr20034 ?hQ20034 ?hy20034 ?hS20034 ?hrest20034
                case hi20034 => (conv => lhs; simp only [List.getElem?_toArray, List.getElem?_cons_zero, List.getElem?_cons_succ]); try exact rfl
                case hs20034 => kernel_rfl
                case hf20034 => kernel_rfl
                case hr20034 => kernel_rfl
                case hQ20034 => exact fun _ _ _ h => h
                case hS20034 => exact S4 kAS2 kAF2
                case hy20034 => refine Or.inl ⟨by rfl, ?_⟩; intro w hSw; (try dsimp only at hSw); go_simp; (try with_reducible rfl)
                simp only [Act.put, List.setIfInBounds_toArray, List.set_cons_zero, List.set_cons_succ]
                exact key_fwH_1_3_6_11 H1 H1c H2 H2c H3 H3c Y1 Y1c Y2 Y2c Y3 Y3c aD lp q ⟨bw2, kAF2, kAS2, kD2, pF2, pS2, laD, lpf⟩
               case br20030 =>
                go_simp
                refine hK.out _ _ (by exact S4 (kAS.alloc (.cells #[.int .i64 0, .slice none 0 0] 34)) (kAF.alloc (.cells #[.int .i64 0, .slice none 0 0] 34))) (fun _ => ?_)
                clear hK K
                try simp only [Act.put, List.setIfInBounds_toArray, List.set_cons_zero, List.set_cons_succ]
                refine foldH ?_
                intro q hq
                obtain ⟨aE, ha⟩ : ∃ g, r.heap.size = g := ⟨_, rfl⟩
                rw [ha]
                have bw2 : Below w23.heap.size w23 q := by rw [hq]; exact belA bw _
                have kAS2 : Blk q _ _ _ := hq ▸ kAS.alloc (.cells #[.int .i64 0, .slice none 0 0] 34)
                have kAF2 : Blk q _ _ _ := hq ▸ kAF.alloc (.cells #[.int .i64 0, .slice none 0 0] 34)
                have kD2 : Blk q _ _ _ := hq ▸ kD.alloc (.cells #[.int .i64 0, .slice none 0 0] 34)
                have pY2 : IsSto q (.agg #[.slice Y1 S.bs.length Y1c, .slice Y2 S.ds.length Y2c]) S := by rw [hq]; exact pY.next (belA (bel0 _) _)
                have pV2 : IsFil q (.agg #[.int .i64 F.sz, .slice Y3 F.xs.length Y3c]) F := by rw [hq]; exact pV.next (belA (bel0 _) _)
                have kE2 : Blk q aE 34 #[.int .i64 0, .slice none 0 0] := by rw [hq, ← ha]; exact Blk.new' _ _ _ _ rfl
                have laE : w23.heap.size ≤ aE := by rw [← ha]; exact bw.size
                exact key_fwH_1_3_11_12 Y1 Y1c Y2 Y2c Y3 Y3c aD aE q ⟨bw2, kAF2, kAS2, kD2, kE2, pV2, pY2, laD, laE⟩
             case key =>
              rintro Y1 Y1c Y2 Y2c Y3 Y3c aE r ⟨bw, kAF, kAS, kE, pV, pY, laE⟩
              try dsimp only
              refine wpAnyH_ready (rs := [6, 11]) (by kernel_rfl) (by simp) ?_
              refine AllReadyH.cons (o := ?oi20035) ?hi20035 (fun K hK => ?br20035) (AllReadyH.cons (o := ?oi20036) ?hi20036 (fun K hK => ?br20036) AllReadyH.nil)
              case hi20035 => (conv => lhs; simp only [List.getElem?_toArray, List.getElem?_cons_zero, List.getElem?_cons_succ]); try exact rfl
              case hi20036 => (conv => lhs; simp only [List.getElem?_toArray, List.getElem?_cons_zero, List.getElem?_cons_succ]); try exact rfl
              case br20035 =>
               go_simp
               go_at_call 9
               refine (filWrite_impl _ _ S F HsmS.out HsmF.out off data hd2 HP.out _ pY pV).mono ?_
               rintro e q ⟨_, _, rfl, hCS, hCF, hb⟩
               have bw2 := bw.trans (hb.mono bw.size)
               have kAS2 := kAS.below hb kAS.lt
               have kAF2 := kAF.below hb kAF.lt
               have kE2 := kE.below hb kE.lt
               obtain ⟨lp, hlp⟩ : ∃ l, r.heap.size = l := ⟨_, rfl⟩
               rw [hlp] at hCS hCF
               have lpf : w.heap.size ≤ lp := by rw [← hlp]; exact Nat.le_trans B23.size bw.size
               obtain ⟨_, _, rfl, oa, ob⟩ := hCS
               obtain ⟨H1, H1c, rfl, _, _, _⟩ := own_vals oa
               obtain ⟨H2, H2c, rfl, _, _, _⟩ := own_vals ob
               obtain ⟨_, rfl, oc⟩ := hCF
               obtain ⟨H3, H3c, rfl, _, _, _⟩ := own_vals oc
               have pS2 : OwnSto lp (.agg #[.slice H1 S'.bs.length H1c, .slice H2 S'.ds.length H2c]) S' q := ⟨_, _, rfl, oa, ob⟩
               have pF2 : OwnFil lp (.agg #[.int .i64 F'.sz, .slice H3 F'.xs.length H3c]) F' q := ⟨_, rfl, oc⟩
               clear oa ob oc hlp
               refine hK.out _ _ (by exact S4 kAS2 kAF2) (fun _ => ?_)
               clear hK K
               try simp only [Act.put, List.setIfInBounds_toArray, List.set_cons_zero, List.set_cons_succ]
               refine wpAnyH_take (i := 7) (oi := ?oi20037) (v := ?v20037) ?hi20037 ?hs20037 ?hf20037 ?hr20037 ?hQ20037 ?hy20037 ?hS20037 ?hrest20037
               case hi20037 => (conv => lhs; simp only [List.getElem?_toArray, List.getElem?_cons_zero, List.getElem?_cons_succ]); try exact rfl
               case hs20037 => kernel_rfl
               case hf20037 => kernel_rfl
               case hr20037 => kernel_rfl
               case hQ20037 => exact fun _ _ _ h => h
               case hS20037 => exact S4 kAS2 kAF2
               case hy20037 => refine Or.inl ⟨by rfl, ?_⟩; intro w hSw; (try dsimp only at hSw); go_simp; (try with_reducible rfl)
               simp only [Act.put, List.setIfInBounds_toArray, List.set_cons_zero, List.set_cons_succ]
               refine wpAnyH_take (i := 8) (oi := ?oi20038) (v := ?v20038) ?hi20038 ?hs20038 ?hf20038 ?hr20038 ?hQ20038 ?hy20038 ?hS20038 ?hrest20038
               case hi20038 => (conv => lhs; simp only [List.getElem?_toArray, List.getElem?_cons_zero, List.getElem?_cons_succ]); try exact rfl
               case hs20038 => kernel_rfl
               case hf20038 => kernel_rfl
               case hr20038 => kernel_rfl
               case hQ20038 => exact fun _ _ _ h => h
               case hS20038 => exact S4 kAS2 kAF2
               case hy20038 => refine Or.inl ⟨by rfl, ?_⟩; intro w hSw; (try dsimp only at hSw); go_simp; (try with_reducible rfl)
               simp only [Act.put, List.setIfInBounds_toArray, List.set_cons_zero, List.set_cons_succ]
               refine wpAnyH_take (i := 9) (oi := ?oi20039) (v := ?v20039) ?hi20039 ?hs20039 ?hf20039 ?hr20039 ?hQ20039 ?hy20039 ?hS20039 ?hrest20039
               case hi20039 => (conv => lhs; simp only [List.getElem?_toArray, List.getElem?_cons_zero, List.getElem?_cons_succ]); try exact rfl
               case hs20039 => kernel_rfl
               case hf20039 => kernel_rfl
               case hr20039 => kernel_rfl
               case hQ20039 => exact fun _ _ _ h => h
               case hS20039 => exact S4 kAS2 kAF2
               case hy20039 => refine Or.inl ⟨by rfl, ?_⟩; intro w hSw; (try dsimp only at hSw); go_simp; (try with_reducible rfl)
               simp only [Act.put, List.setIfInBounds_toArray, List.set_cons_zero, List.set_cons_succ]
               refine wpAnyH_take (i := 10) (oi := ?oi20040) (v := ?v20040) ?hi20040 ?hs20040 ?hf20040 ?hr20040 ?hQ20040 ?hy20040 ?hS20040 ?hrest20040
               case hi20040 => (conv => lhs; simp only [List.getElem?_toArray, List.getElem?_cons_zero, List.getElem?_cons_succ]); try exact rfl
               case hs20040 => kernel_rfl
               case hf20040 => kernel_rfl
               case hr20040 => kernel_rfl
               case hQ20040 => exact fun _ _ _ h => h
               case hS20040 => exact S4 kAS2 kAF2
               case hy20040 => refine Or.inl ⟨by rfl, ?_⟩; intro w hSw; (try dsimp only at hSw); go_simp; (try with_reducible rfl)
               simp only [Act.put, List.setIfInBounds_toArray, List.set_cons_zero, List.set_cons_succ]
               exact key_fwH_1_3_6_12 H1 H1c H2 H2c H3 H3c Y1 Y1c Y2 Y2c Y3 Y3c aE lp q ⟨bw2, kAF2, kAS2, kE2, pF2, pS2, laE, lpf⟩
              case br20036 =>
               go_simp
               refine hK.out _ _ (by exact S4 (kAS.alloc (.cells #[.slice none 0 0, .slice none 0 0] 31)) (kAF.alloc (.cells #[.slice none 0 0, .slice none 0 0] 31))) (fun _ => ?_)
               clear hK K
               try simp only [Act.put, List.setIfInBounds_toArray, List.set_cons_zero, List.set_cons_succ]
               refine foldH ?_
               intro q hq
               obtain ⟨aD, ha⟩ : ∃ g, r.heap.size = g := ⟨_, rfl⟩
               rw [ha]
               have bw2 : Below w23.heap.size w23 q := by rw [hq]; exact belA bw _
               have kAS2 : Blk q _ _ _ := hq ▸ kAS.alloc (.cells #[.slice none 0 0, .slice none 0 0] 31)
               have kAF2 : Blk q _ _ _ := hq ▸ kAF.alloc (.cells #[.slice none 0 0, .slice none 0 0] 31)
               have kE2 : Blk q _ _ _ := hq ▸ kE.alloc (.cells #[.slice none 0 0, .slice none 0 0] 31)
               have pY2 : IsSto q (.agg #[.slice Y1 S.bs.length Y1c, .slice Y2 S.ds.length Y2c]) S := by rw [hq]; exact pY.next (belA (bel0 _) _)
               have pV2 : IsFil q (.agg #[.int .i64 F.sz, .slice Y3 F.xs.length Y3c]) F := by rw [hq]; exact pV.next (belA (bel0 _) _)
               have kD2 : Blk q aD 31 #[.slice none 0 0, .slice none 0 0] := by rw [hq, ← ha]; exact Blk.new' _ _ _ _ rfl
               have laD : w23.heap.size ≤ aD := by rw [← ha]; exact bw.size
               exact key_fwH_1_3_11_12 Y1 Y1c Y2 Y2c Y3 Y3c aD aE q ⟨bw2, kAF2, kAS2, kD2, kE2, pV2, pY2, laD, laE⟩
            case key =>
             rintro Y1 Y1c Y2 Y2c aD aE r ⟨bw, kAF, kAS, kD, kE, pY, laD, laE⟩
             try dsimp only
             refine wpAnyH_ready (rs := [3]) (by kernel_rfl) (by simp) ?_
             refine AllReadyH.cons (o := ?oi20041) ?hi20041 (fun K hK => ?br20041) AllReadyH.nil
             case hi20041 => (conv => lhs; simp only [List.getElem?_toArray, List.getElem?_cons_zero, List.getElem?_cons_succ]); try exact rfl
             case br20041 =>
              go_simp
              go_at_call 8
              refine (toFil_is _ F HsmF.out _ (HFil.out _ (belN B23 bw))).mono ?_
              rintro e q ⟨_, rfl, hOB, hb⟩
              have bw2 := bw.trans (hb.mono bw.size)
              have kAS2 := kAS.below hb kAS.lt
              have kAF2 := kAF.below hb kAF.lt
              have kD2 := kD.below hb kD.lt
              have kE2 := kE.below hb kE.lt
              have pY2 := pY.next hb
              obtain ⟨Y3, Y3c, rfl, hy1⟩ := hOB.fil
              have pV2 : IsFil q (.agg #[.int .i64 F.sz, .slice Y3 F.xs.length Y3c]) F := ⟨_, _, rfl, hy1⟩
              clear hOB hy1
              refine hK.out _ _ (by exact S4 kAS2 kAF2) (fun _ => ?_)
              clear hK K
              try simp only [Act.put, List.setIfInBounds_toArray, List.set_cons_zero, List.set_cons_succ]
              exact key_fwH_1_3_11_12 Y1 Y1c Y2 Y2c Y3 Y3c aD aE q ⟨bw2, kAF2, kAS2, kD2, kE2, pV2, pY2, laD, laE⟩
           case key =>
            rintro H1 H1c H2 H2c H3 H3c Y1 Y1c Y2 Y2c Y3 Y3c aD lp r ⟨bw, kAF, kAS, kD, pF, pS, laD, lpf⟩
            try dsimp only
            refine wpAnyH_ready (rs := [12]) (by kernel_rfl) (by simp) ?_
            refine AllReadyH.cons (o := ?oi20042) ?hi20042 (fun K hK => ?br20042) AllReadyH.nil
            case hi20042 => (conv => lhs; simp only [List.getElem?_toArray, List.getElem?_cons_zero, List.getElem?_cons_succ]); try exact rfl
            case br20042 =>
             go_simp
             refine hK.out _ _ (by exact S4 (kAS.alloc (.cells #[.int .i64 0, .slice none 0 0] 34)) (kAF.alloc (.cells #[.int .i64 0, .slice none 0 0] 34))) (fun _ => ?_)
             clear hK K
             try simp only [Act.put, List.setIfInBounds_toArray, List.set_cons_zero, List.set_cons_succ]
             refine foldH ?_
             intro q hq
             obtain ⟨aE, ha⟩ : ∃ g, r.heap.size = g := ⟨_, rfl⟩
             rw [ha]
             have bw2 : Below w23.heap.size w23 q := by rw [hq]; exact belA bw _
             have kAS2 : Blk q _ _ _ := hq ▸ kAS.alloc (.cells #[.int .i64 0, .slice none 0 0] 34)
             have kAF2 : Blk q _ _ _ := hq ▸ kAF.alloc (.cells #[.int .i64 0, .slice none 0 0] 34)
             have kD2 : Blk q _ _ _ := hq ▸ kD.alloc (.cells #[.int .i64 0, .slice none 0 0] 34)
             have pS2 : OwnSto lp (.agg #[.slice H1 S'.bs.length H1c, .slice H2 S'.ds.length H2c]) S' q := by rw [hq]; exact pS.next (belA (bel0 _) _)
             have pF2 : OwnFil lp (.agg #[.int .i64 F'.sz, .slice H3 F'.xs.length H3c]) F' q := by rw [hq]; exact pF.next (belA (bel0 _) _)
             have kE2 : Blk q aE 34 #[.int .i64 0, .slice none 0 0] := by rw [hq, ← ha]; exact Blk.new' _ _ _ _ rfl
             have laE : w23.heap.size ≤ aE := by rw [← ha]; exact bw.size
             exact key_fwH_1_3_6_11_12 H1 H1c H2 H2c H3 H3c Y1 Y1c Y2 Y2c Y3 Y3c aD aE lp q ⟨bw2, kAF2, kAS2, kD2, kE2, pF2, pS2, laD, laE, lpf⟩
          case key =>
           rintro H1 H1c H2 H2c H3 H3c Y1 Y1c Y2 Y2c Y3 Y3c aE lp r ⟨bw, kAF, kAS, kE, pF, pS, laE, lpf⟩
           try dsimp only
           refine wpAnyH_ready (rs := [11]) (by kernel_rfl) (by simp) ?_
           refine AllReadyH.cons (o := ?oi20043) ?hi20043 (fun K hK => ?br20043) AllReadyH.nil
           case hi20043 => (conv => lhs; simp only [List.getElem?_toArray, List.getElem?_cons_zero, List.getElem?_cons_succ]); try exact rfl
           case br20043 =>
            go_simp
            refine hK.out _ _ (by exact S4 (kAS.alloc (.cells #[.slice none 0 0, .slice none 0 0] 31)) (kAF.alloc (.cells #[.slice none 0 0, .slice none 0 0] 31))) (fun _ => ?_)
            clear hK K
            try simp only [Act.put, List.setIfInBounds_toArray, List.set_cons_zero, List.set_cons_succ]
            refine foldH ?_
            intro q hq
            obtain ⟨aD, ha⟩ : ∃ g, r.heap.size = g := ⟨_, rfl⟩
            rw [ha]
            have bw2 : Below w23.heap.size w23 q := by rw [hq]; exact belA bw _
            have kAS2 : Blk q _ _ _ := hq ▸ kAS.alloc (.cells #[.slice none 0 0, .slice none 0 0] 31)
            have kAF2 : Blk q _ _ _ := hq ▸ kAF.alloc (.cells #[.slice none 0 0, .slice none 0 0] 31)
            have kE2 : Blk q _ _ _ := hq ▸ kE.alloc (.cells #[.slice none 0 0, .slice none 0 0] 31)
            have pS2 : OwnSto lp (.agg #[.slice H1 S'.bs.length H1c, .slice H2 S'.ds.length H2c]) S' q := by rw [hq]; exact pS.next (belA (bel0 _) _)
            have pF2 : OwnFil lp (.agg #[.int .i64 F'.sz, .slice H3 F'.xs.length H3c]) F' q := by rw [hq]; exact pF.next (belA (bel0 _) _)
            have kD2 : Blk q aD 31 #[.slice none 0 0, .slice none 0 0] := by rw [hq, ← ha]; exact Blk.new' _ _ _ _ rfl
            have laD : w23.heap.size ≤ aD := by rw [← ha]; exact bw.size
            exact key_fwH_1_3_6_11_12 H1 H1c H2 H2c H3 H3c Y1 Y1c Y2 Y2c Y3 Y3c aD aE lp q ⟨bw2, kAF2, kAS2, kD2, kE2, pF2, pS2, laD, laE, lpf⟩
         case key =>
          rintro Y1 Y1c Y2 Y2c Y3 Y3c aD aE r ⟨bw, kAF, kAS, kD, kE, pV, pY, laD, laE⟩
          try dsimp only
          refine wpAnyH_ready (rs := [6]) (by kernel_rfl) (by simp) ?_
          refine AllReadyH.cons (o := ?oi20044) ?hi20044 (fun K hK => ?br20044) AllReadyH.nil
          case hi20044 => (conv => lhs; simp only [List.getElem?_toArray, List.getElem?_cons_zero, List.getElem?_cons_succ]); try exact rfl
          case br20044 =>
           go_simp
           go_at_call 9
           refine (filWrite_impl _ _ S F HsmS.out HsmF.out off data hd2 HP.out _ pY pV).mono ?_
           rintro e q ⟨_, _, rfl, hCS, hCF, hb⟩
           have bw2 := bw.trans (hb.mono bw.size)
           have kAS2 := kAS.below hb kAS.lt
           have kAF2 := kAF.below hb kAF.lt
           have kD2 := kD.below hb kD.lt
           have kE2 := kE.below hb kE.lt
           obtain ⟨lp, hlp⟩ : ∃ l, r.heap.size = l := ⟨_, rfl⟩
           rw [hlp] at hCS hCF
           have lpf : w.heap.size ≤ lp := by rw [← hlp]; exact Nat.le_trans B23.size bw.size
           obtain ⟨_, _, rfl, oa, ob⟩ := hCS
           obtain ⟨H1, H1c, rfl, _, _, _⟩ := own_vals oa
           obtain ⟨H2, H2c, rfl, _, _, _⟩ := own_vals ob
           obtain ⟨_, rfl, oc⟩ := hCF
           obtain ⟨H3, H3c, rfl, _, _, _⟩ := own_vals oc
           have pS2 : OwnSto lp (.agg #[.slice H1 S'.bs.length H1c, .slice H2 S'.ds.length H2c]) S' q := ⟨_, _, rfl, oa, ob⟩
           have pF2 : OwnFil lp (.agg #[.int .i64 F'.sz, .slice H3 F'.xs.length H3c]) F' q := ⟨_, rfl, oc⟩
           clear oa ob oc hlp
           refine hK.out _ _ (by exact S4 kAS2 kAF2) (fun _ => ?_)
           clear hK K
           try simp only [Act.put, List.setIfInBounds_toArray, List.set_cons_zero, List.set_cons_succ]
           refine wpAnyH_take (i := 7) (oi := ?oi20045) (v := ?v20045) ?hi20045 ?hs20045 ?hf20045 ?hr20045 ?hQ20045 ?hy20045 ?hS20045 ?hrest20045
           case hi20045 => (conv => lhs; simp only [List.getElem?_toArray, List.getElem?_cons_zero, List.getElem?_cons_succ]); try exact rfl
           case hs20045 => kernel_rfl
           case hf20045 => kernel_rfl
           case hr20045 => kernel_rfl
           case hQ20045 => exact fun _ _ _ h => h
           case hS20045 => exact S4 kAS2 kAF2
           case hy20045 => refine Or.inl ⟨by rfl, ?_⟩; intro w hSw; (try dsimp only at hSw); go_simp; (try with_reducible rfl)
           simp only [Act.put, List.setIfInBounds_toArray, List.set_cons_zero, List.set_cons_succ]
           refine wpAnyH_take (i := 8) (oi := ?oi20046) (v := ?v20046) ?hi20046 ?hs20046 ?hf20046 ?hr20046 ?hQ20046 ?hy20046 ?hS20046 ?hrest20046
           case hi20046 => (conv => lhs; simp only [List.getElem?_toArray, List.getElem?_cons_zero, List.getElem?_cons_succ]); try exact rfl
           case hs20046 => kernel_rfl
           case hf20046 => kernel_rfl
           case hr20046 => kernel_rfl
           case hQ20046 => exact fun _ _ _ h => h
           case hS20046 => exact S4 kAS2 kAF2
           case hy20046 => refine Or.inl ⟨by rfl, ?_⟩; intro w hSw; (try dsimp only at hSw); go_simp; (try with_reducible rfl)
           simp only [Act.put, List.setIfInBounds_toArray, List.set_cons_zero, List.set_cons_succ]
           refine wpAnyH_take (i := 9) (oi := ?oi20047) (v := ?v20047) ?hi20047 ?hs20047 ?hf20047 ?hr20047 ?hQ20047 ?hy20047 ?hS20047 ?hrest20047
           case hi20047 => (conv => lhs; simp only [List.getElem?_toArray, List.getElem?_cons_zero, List.getElem?_cons_succ]); try exact rfl
           case hs20047 => kernel_rfl
           case hf20047 => kernel_rfl
           case hr20047 => kernel_rfl
           case hQ20047 => exact fun _ _ _ h => h
           case hS20047 => exact S4 kAS2 kAF2
           case hy20047 => refine Or.inl ⟨by rfl, ?_⟩; intro w hSw; (try dsimp only at hSw); go_simp; (try with_reducible rfl)
           simp only [Act.put, List.setIfInBounds_toArray, List.set_cons_zero, List.set_cons_succ]
           refine wpAnyH_take (i := 10) (oi := ?oi20048) (v := ?v20048) ?hi20048 ?hs20048 ?hf20048 ?hr20048 ?hQ20048 ?hy20048 ?hS20048 ?hrest20048
           case hi20048 => (conv => lhs; simp only [List.getElem?_toArray, List.getElem?_cons_zero, List.getElem?_cons_succ]); try exact rfl
           case hs20048 => kernel_rfl
           case hf20048 => kernel_rfl
           case hr20048 => kernel_rfl
           case hQ20048 => exact fun _ _ _ h => h
           case hS20048 => exact S4 kAS2 kAF2
           case hy20048 => refine Or.inl ⟨by rfl, ?_⟩; intro w hSw; (try dsimp only at hSw); go_simp; (try with_reducible rfl)
           simp only [Act.put, List.setIfInBounds_toArray, List.set_cons_zero, List.set_cons_succ]
           exact key_fwH_1_3_6_11_12 H1 H1c H2 H2c H3 H3c Y1 Y1c Y2 Y2c Y3 Y3c aD aE lp q ⟨bw2, kAF2, kAS2, kD2, kE2, pF2, pS2, laD, laE, lpf⟩
        case key =>
         rintro H1 H1c H2 H2c H3 H3c Y1 Y1c Y2 Y2c Y3 Y3c aD aE lp r ⟨bw, kAF, kAS, kD, kE, pF, pS, laD, laE, lpf⟩
         try dsimp only
         refine wpAnyH_ready (rs := [13]) (by kernel_rfl) (by simp) ?_
         refine AllReadyH.cons (o := ?oi20049) ?hi20049 (fun K hK => ?br20049) AllReadyH.nil
         case hi20049 => (conv => lhs; simp only [List.getElem?_toArray, List.getElem?_cons_zero, List.getElem?_cons_succ]); try exact rfl
         case br20049 =>
          have x_0 := kD.get (x := .slice none 0 0) 0 rfl
          have f_0 := kD.frozen 0
          have x_1 := kD.get (x := .slice none 0 0) 1 rfl
          have f_1 := kD.frozen 1
          have lE := kD.lt
          have neAS : w.heap.size ≠ aD := Blk.ne_ kAS kD (by decide)
          have neAF : (w.heap.size + 1) ≠ aD := Blk.ne_ kAF kD (by decide)
          have neE : aE ≠ aD := Blk.ne_ kE kD (by decide)
          go_simp
          refine hK.out _ _ (by exact S4 (((kAS).far (p := ⟨aD, 0, none⟩) neAS (.slice H1 S'.bs.length H1c)).far (p := ⟨aD, 1, none⟩) neAS (.slice H2 S'.ds.length H2c)) (((kAF).far (p := ⟨aD, 0, none⟩) neAF (.slice H1 S'.bs.length H1c)).far (p := ⟨aD, 1, none⟩) neAF (.slice H2 S'.ds.length H2c))) (fun _ => ?_)
          clear hK K x_0 x_1 f_0 f_1 lE
          try simp only [Act.put, List.setIfInBounds_toArray, List.set_cons_zero, List.set_cons_succ]
          refine foldH ?_
          intro q hq
          have bw2 : Below w23.heap.size w23 q := by rw [hq]; exact belC (belC (bw) _ 0 laD (.slice H1 S'.bs.length H1c)) _ 1 laD (.slice H2 S'.ds.length H2c)
          have kAS2 : Blk q w.heap.size 25 #[.slice A1 S.bs.length A1c, .slice A2 S.ds.length A2c] := by rw [hq]; exact ((kAS).far (p := ⟨aD, 0, none⟩) neAS (.slice H1 S'.bs.length H1c)).far (p := ⟨aD, 1, none⟩) neAS (.slice H2 S'.ds.length H2c)
          have kAF2 : Blk q (w.heap.size + 1) 28 #[.int .i64 F.sz, .slice A3 F.xs.length A3c] := by rw [hq]; exact ((kAF).far (p := ⟨aD, 0, none⟩) neAF (.slice H1 S'.bs.length H1c)).far (p := ⟨aD, 1, none⟩) neAF (.slice H2 S'.ds.length H2c)
          have kD2 : Blk q aD 31 #[.slice H1 S'.bs.length H1c, .slice H2 S'.ds.length H2c] := by rw [hq]; exact ((kD.put 0 (.slice H1 S'.bs.length H1c) #[.slice H1 S'.bs.length H1c, .slice none 0 0] rfl).put 1 (.slice H2 S'.ds.length H2c) #[.slice H1 S'.bs.length H1c, .slice H2 S'.ds.length H2c] rfl)
          have kE2 : Blk q aE 34 #[.int .i64 0, .slice none 0 0] := by rw [hq]; exact ((kE).far (p := ⟨aD, 0, none⟩) neE (.slice H1 S'.bs.length H1c)).far (p := ⟨aD, 1, none⟩) neE (.slice H2 S'.ds.length H2c)
          have pS2 : OwnSto lp (.agg #[.slice H1 S'.bs.length H1c, .slice H2 S'.ds.length H2c]) S' q := by rw [hq]; exact ((pS).farS kD 0 (.slice H1 S'.bs.length H1c)).farS (kD.put 0 (.slice H1 S'.bs.length H1c) #[.slice H1 S'.bs.length H1c, .slice none 0 0] rfl) 1 (.slice H2 S'.ds.length H2c)
          have pF2 : OwnFil lp (.agg #[.int .i64 F'.sz, .slice H3 F'.xs.length H3c]) F' q := by rw [hq]; exact ((pF).farS kD 0 (.slice H1 S'.bs.length H1c)).farS (kD.put 0 (.slice H1 S'.bs.length H1c) #[.slice H1 S'.bs.length H1c, .slice none 0 0] rfl) 1 (.slice H2 S'.ds.length H2c)
          exact key_fwH_1_3_6_11_12_13 H1 H1c H2 H2c H3 H3c Y1 Y1c Y2 Y2c Y3 Y3c aD aE lp q ⟨bw2, kAF2, kAS2, kD2, kE2, pF2, pS2, laD, laE, lpf⟩
       case key =>
        rintro H1 H1c H2 H2c H3 H3c Y1 Y1c Y2 Y2c Y3 Y3c aD aE lp r ⟨bw, kAF, kAS, kD, kE, pF, pS, laD, laE, lpf⟩
        try dsimp only
        refine wpAnyH_ready (rs := [14]) (by kernel_rfl) (by simp) ?_
        refine AllReadyH.cons (o := ?oi20050) ?hi20050 (fun K hK => ?br20050) AllReadyH.nil
        case hi20050 => (conv => lhs; simp only [List.getElem?_toArray, List.getElem?_cons_zero, List.getElem?_cons_succ]); try exact rfl
        case br20050 =>
         have x_0 := kE.get (x := .int .i64 0) 0 rfl
         have f_0 := kE.frozen 0
         have x_1 := kE.get (x := .slice none 0 0) 1 rfl
         have f_1 := kE.frozen 1
         have lE := kE.lt
         have neAS : w.heap.size ≠ aE := Blk.ne_ kAS kE (by decide)
         have neAF : (w.heap.size + 1) ≠ aE := Blk.ne_ kAF kE (by decide)
         have neD : aD ≠ aE := Blk.ne_ kD kE (by decide)
         go_simp
         refine hK.out _ _ (by exact S4 (((kAS).far (p := ⟨aE, 0, none⟩) neAS (.int .i64 F'.sz)).far (p := ⟨aE, 1, none⟩) neAS (.slice H3 F'.xs.length H3c)) (((kAF).far (p := ⟨aE, 0, none⟩) neAF (.int .i64 F'.sz)).far (p := ⟨aE, 1, none⟩) neAF (.slice H3 F'.xs.length H3c))) (fun _ => ?_)
         clear hK K x_0 x_1 f_0 f_1 lE
         try simp only [Act.put, List.setIfInBounds_toArray, List.set_cons_zero, List.set_cons_succ]
         refine foldH ?_
         intro q hq
         have bw2 : Below w23.heap.size w23 q := by rw [hq]; exact belC (belC (bw) _ 0 laE (.int .i64 F'.sz)) _ 1 laE (.slice H3 F'.xs.length H3c)
         have kAS2 : Blk q w.heap.size 25 #[.slice A1 S.bs.length A1c, .slice A2 S.ds.length A2c] := by rw [hq]; exact ((kAS).far (p := ⟨aE, 0, none⟩) neAS (.int .i64 F'.sz)).far (p := ⟨aE, 1, none⟩) neAS (.slice H3 F'.xs.length H3c)
         have kAF2 : Blk q (w.heap.size + 1) 28 #[.int .i64 F.sz, .slice A3 F.xs.length A3c] := by rw [hq]; exact ((kAF).far (p := ⟨aE, 0, none⟩) neAF (.int .i64 F'.sz)).far (p := ⟨aE, 1, none⟩) neAF (.slice H3 F'.xs.length H3c)
         have kD2 : Blk q aD 31 #[.slice H1 S'.bs.length H1c, .slice H2 S'.ds.length H2c] := by rw [hq]; exact ((kD).far (p := ⟨aE, 0, none⟩) neD (.int .i64 F'.sz)).far (p := ⟨aE, 1, none⟩) neD (.slice H3 F'.xs.length H3c)
         have kE2 : Blk q aE 34 #[.int .i64 F'.sz, .slice H3 F'.xs.length H3c] := by rw [hq]; exact ((kE.put 0 (.int .i64 F'.sz) #[.int .i64 F'.sz, .slice none 0 0] rfl).put 1 (.slice H3 F'.xs.length H3c) #[.int .i64 F'.sz, .slice H3 F'.xs.length H3c] rfl)
         have pS2 : OwnSto lp (.agg #[.slice H1 S'.bs.length H1c, .slice H2 S'.ds.length H2c]) S' q := by rw [hq]; exact ((pS).farF kE 0 (.int .i64 F'.sz)).farF (kE.put 0 (.int .i64 F'.sz) #[.int .i64 F'.sz, .slice none 0 0] rfl) 1 (.slice H3 F'.xs.length H3c)
         have pF2 : OwnFil lp (.agg #[.int .i64 F'.sz, .slice H3 F'.xs.length H3c]) F' q := by rw [hq]; exact ((pF).farF kE 0 (.int .i64 F'.sz)).farF (kE.put 0 (.int .i64 F'.sz) #[.int .i64 F'.sz, .slice none 0 0] rfl) 1 (.slice H3 F'.xs.length H3c)
         refine wpAnyH_take (i := 15) (oi := ?oi20051) (v := ?v20051) ?hi20051 ?hs20051 ?hf20051 ?hr20051 ?hQ20051 ?hy20051 ?hS20051 ?hrest20051
         case hi20051 => (conv => lhs; simp only [List.getElem?_toArray, List.getElem?_cons_zero, List.getElem?_cons_succ]); try exact rfl
         case hs20051 => kernel_rfl
         case hf20051 => kernel_rfl
         case hr20051 => kernel_rfl
         case hQ20051 => exact fun _ _ _ h => h
         case hS20051 => exact S4 kAS2 kAF2
         case hy20051 => refine Or.inl ⟨by rfl, ?_⟩; intro w hSw; (try dsimp only at hSw); go_simp; (try with_reducible rfl)
         simp only [Act.put, List.setIfInBounds_toArray, List.set_cons_zero, List.set_cons_succ]
         exact key_fwH_1_3_6_11_12_13_14 H1 H1c H2 H2c H3 H3c Y1 Y1c Y2 Y2c Y3 Y3c aD aE lp q ⟨bw2, kAF2, kAS2, kD2, kE2, pF2, pS2, laD, laE, lpf⟩
      case key =>
       rintro H1 H1c H2 H2c H3 H3c Y1 Y1c Y2 Y2c Y3 Y3c aD aE lp r ⟨bw, kAF, kAS, kD, kE, pF, pS, laD, laE, lpf⟩
       try dsimp only
       refine wpAnyH_done (by kernel_rfl) ?_ _
       go_wp2_with fail
       go_meet
       case rel => exact ⟨aD, aE, lp, _, H1, H1c, H2, H2c, H3, H3c, rfl, rfl, rfl, lpf, Lib.hid kD, Lib.hid kE, Lib.hid pS.in_, Lib.hid pF.in_, bw⟩
    case rest =>
      obtain ⟨gHS, gHF, loH, hiH, H1, H1c, H2, H2c, H3, H3c, rfl, rfl, rfl, hlpH, kb1, kb2, si, fi, hq24⟩ := hcut
      rename World => w24
      have B24 := belN B23 hq24
      have z24 := hq24.size
      have AS_24 := Lib.hid (AS_23.out.below hq24 AS_23.out.lt)
      clear AS_23
      have AF_24 := Lib.hid (AF_23.out.below hq24 AF_23.out.lt)
      clear AF_23
      have PS_24 := Lib.hid (PS_23.out.below hq24 PS_23.out.lt)
      clear PS_23
      have PF_24 := Lib.hid (PF_23.out.below hq24 PF_23.out.lt)
      clear PF_23
      have PSo_24 := Lib.hid (PSo_23.out.next hq24)
      clear PSo_23
      have PFo_24 := Lib.hid (PFo_23.out.next hq24)
      clear PFo_23
      have GS_24 := Lib.hid (GS_23.out.below hq24 GS_23.out.lt)
      clear GS_23
      have GF_24 := Lib.hid (GF_23.out.below hq24 GF_23.out.lt)
      clear GF_23
      have GSo_24 := Lib.hid (GSo_23.out.next hq24)
      clear GSo_23
      have GFo_24 := Lib.hid (GFo_23.out.next hq24)
      clear GFo_23
      have hhpH : hiH ≤ w24.heap.size := si.out.1
      have lgHS := kb1.out.lt
      have lgHF := kb2.out.lt
      have HS_24 := Lib.hid (kb1.out)
      have HF_24 := Lib.hid (kb2.out)
      have HSo_24 := Lib.hid (si.out)
      have HFo_24 := Lib.hid (fi.out)
      clear kb1 kb2 si fi HA_S HA_F
      have cHS0 := HS_24.out.get (x := .slice H1 S'.bs.length H1c) 0 rfl
      have cHS1 := HS_24.out.get (x := .slice H2 S'.ds.length H2c) 1 rfl
      have lHS := HS_24.out.lt
      have cPS0 := PS_24.out.get (x := .slice P1 S'.bs.length P1c) 0 rfl
      have cPS1 := PS_24.out.get (x := .slice P2 S'.ds.length P2c) 1 rfl
      have lPS := PS_24.out.lt
      go_wp2_with fail
      clear cHS0 cHS1 lHS
      clear cPS0 cPS1 lPS
      refine (eqStore_is _ _ S' q1 q2 _ HSo_24.out.own.sto PSo_24.out.own.sto).mono ?_
      rintro e w25 ⟨rfl, hb25⟩
      have B25 := belN B24 hb25
      have z25 := hb25.size
      have AS_25 := Lib.hid (AS_24.out.below hb25 AS_24.out.lt)
      clear AS_24
      have AF_25 := Lib.hid (AF_24.out.below hb25 AF_24.out.lt)
      clear AF_24
      have PS_25 := Lib.hid (PS_24.out.below hb25 PS_24.out.lt)
      clear PS_24
      have PF_25 := Lib.hid (PF_24.out.below hb25 PF_24.out.lt)
      clear PF_24
      have PSo_25 := Lib.hid (PSo_24.out.next hb25)
      clear PSo_24
      have PFo_25 := Lib.hid (PFo_24.out.next hb25)
      clear PFo_24
      have GS_25 := Lib.hid (GS_24.out.below hb25 GS_24.out.lt)
      clear GS_24
      have GF_25 := Lib.hid (GF_24.out.below hb25 GF_24.out.lt)
      clear GF_24
      have GSo_25 := Lib.hid (GSo_24.out.next hb25)
      clear GSo_24
      have GFo_25 := Lib.hid (GFo_24.out.next hb25)
      clear GFo_24
      have HS_25 := Lib.hid (HS_24.out.below hb25 HS_24.out.lt)
      clear HS_24
      have HF_25 := Lib.hid (HF_24.out.below hb25 HF_24.out.lt)
      clear HF_24
      have HSo_25 := Lib.hid (HSo_24.out.next hb25)
      clear HSo_24
      have HFo_25 := Lib.hid (HFo_24.out.next hb25)
      clear HFo_24
      have cHF0 := HF_25.out.get (x := .int .i64 F'.sz) 0 rfl
      have cHF1 := HF_25.out.get (x := .slice H3 F'.xs.length H3c) 1 rfl
      have lHF := HF_25.out.lt
      have cPF0 := PF_25.out.get (x := .int .i64 F'.sz) 0 rfl
      have cPF1 := PF_25.out.get (x := .slice P3 F'.xs.length P3c) 1 rfl
      have lPF := PF_25.out.lt
      go_wp2_with fail
      clear cHF0 cHF1 lHF
      clear cPF0 cPF1 lPF
      refine (eqFil_is _ _ F' q3 _ HFo_25.out.own.fil PFo_25.out.own.fil).mono ?_
      rintro e w26 ⟨rfl, hb26⟩
      have B26 := belN B25 hb26
      have z26 := hb26.size
      have AS_26 := Lib.hid (AS_25.out.below hb26 AS_25.out.lt)
      clear AS_25
      have AF_26 := Lib.hid (AF_25.out.below hb26 AF_25.out.lt)
      clear AF_25
      have PS_26 := Lib.hid (PS_25.out.below hb26 PS_25.out.lt)
      clear PS_25
      have PF_26 := Lib.hid (PF_25.out.below hb26 PF_25.out.lt)
      clear PF_25
      have PSo_26 := Lib.hid (PSo_25.out.next hb26)
      clear PSo_25
      have PFo_26 := Lib.hid (PFo_25.out.next hb26)
      clear PFo_25
      have GS_26 := Lib.hid (GS_25.out.below hb26 GS_25.out.lt)
      clear GS_25
      have GF_26 := Lib.hid (GF_25.out.below hb26 GF_25.out.lt)
      clear GF_25
      have GSo_26 := Lib.hid (GSo_25.out.next hb26)
      clear GSo_25
      have GFo_26 := Lib.hid (GFo_25.out.next hb26)
      clear GFo_25
      have HS_26 := Lib.hid (HS_25.out.below hb26 HS_25.out.lt)
      clear HS_25
      have HF_26 := Lib.hid (HF_25.out.below hb26 HF_25.out.lt)
      clear HF_25
      have HSo_26 := Lib.hid (HSo_25.out.next hb26)
      clear HSo_25
      have HFo_26 := Lib.hid (HFo_25.out.next hb26)
      clear HFo_25
      have cGS0 := GS_26.out.get (x := .slice G1 S'.bs.length G1c) 0 rfl
      have cGS1 := GS_26.out.get (x := .slice G2 S'.ds.length G2c) 1 rfl
      have lGS := GS_26.out.lt
      go_wp2_with fail
      clear cGS0 cGS1 lGS
      refine (heldStore_is _ _ _ _ q1 q2 1 (by omega) (by omega) _ GSo_26.out).mono ?_
      rintro e w27 ⟨rfl, hb27⟩
      have B27 := belN B26 hb27
      have z27 := hb27.size
      have AS_27 := Lib.hid (AS_26.out.below hb27 AS_26.out.lt)
      clear AS_26
      have AF_27 := Lib.hid (AF_26.out.below hb27 AF_26.out.lt)
      clear AF_26
      have PS_27 := Lib.hid (PS_26.out.below hb27 PS_26.out.lt)
      clear PS_26
      have PF_27 := Lib.hid (PF_26.out.below hb27 PF_26.out.lt)
      clear PF_26
      have PSo_27 := Lib.hid (PSo_26.out.next hb27)
      clear PSo_26
      have PFo_27 := Lib.hid (PFo_26.out.next hb27)
      clear PFo_26
      have GS_27 := Lib.hid (GS_26.out.below hb27 GS_26.out.lt)
      clear GS_26
      have GF_27 := Lib.hid (GF_26.out.below hb27 GF_26.out.lt)
      clear GF_26
      have GSo_27 := Lib.hid (GSo_26.out.next hb27)
      clear GSo_26
      have GFo_27 := Lib.hid (GFo_26.out.next hb27)
      clear GFo_26
      have HS_27 := Lib.hid (HS_26.out.below hb27 HS_26.out.lt)
      clear HS_26
      have HF_27 := Lib.hid (HF_26.out.below hb27 HF_26.out.lt)
      clear HF_26
      have HSo_27 := Lib.hid (HSo_26.out.next hb27)
      clear HSo_26
      have HFo_27 := Lib.hid (HFo_26.out.next hb27)
      clear HFo_26
      have nh : ¬ (1 + (S'.bs.length : Int) + (S'.ds.length : Int) < 0) := by omega
      have cGF0 := GF_27.out.get (x := .int .i64 F'.sz) 0 rfl
      have cGF1 := GF_27.out.get (x := .slice G3 F'.xs.length G3c) 1 rfl
      have lGF := GF_27.out.lt
      go_wp2_with fail
      clear cGF0 cGF1 lGF
      refine (heldFil_is _ _ _ _ q3 (1 + (S'.bs.length : Int) + (S'.ds.length : Int)) (by omega) (by omega) _ GFo_27.out).mono ?_
      rintro e w28 ⟨rfl, hb28⟩
      have B28 := belN B27 hb28
      have z28 := hb28.size
      have AS_28 := Lib.hid (AS_27.out.below hb28 AS_27.out.lt)
      clear AS_27
      have AF_28 := Lib.hid (AF_27.out.below hb28 AF_27.out.lt)
      clear AF_27
      have PS_28 := Lib.hid (PS_27.out.below hb28 PS_27.out.lt)
      clear PS_27
      have PF_28 := Lib.hid (PF_27.out.below hb28 PF_27.out.lt)
      clear PF_27
      have PSo_28 := Lib.hid (PSo_27.out.next hb28)
      clear PSo_27
      have PFo_28 := Lib.hid (PFo_27.out.next hb28)
      clear PFo_27
      have GS_28 := Lib.hid (GS_27.out.below hb28 GS_27.out.lt)
      clear GS_27
      have GF_28 := Lib.hid (GF_27.out.below hb28 GF_27.out.lt)
      clear GF_27
      have GSo_28 := Lib.hid (GSo_27.out.next hb28)
      clear GSo_27
      have GFo_28 := Lib.hid (GFo_27.out.next hb28)
      clear GFo_27
      have HS_28 := Lib.hid (HS_27.out.below hb28 HS_27.out.lt)
      clear HS_27
      have HF_28 := Lib.hid (HF_27.out.below hb28 HF_27.out.lt)
      clear HF_27
      have HSo_28 := Lib.hid (HSo_27.out.next hb28)
      clear HSo_27
      have HFo_28 := Lib.hid (HFo_27.out.next hb28)
      clear HFo_27
      have nh2 : ¬ (1 + (S'.bs.length : Int) + (S'.ds.length : Int) + 3 * (F'.xs.length : Int) < 0) := by omega
      go_wp2
      go_ret
      exact ⟨rfl, B28⟩

end Go.Proofs.Ytajgenjfhcapjaa
