/- Writing into a file: the walk of the reference. -/
import Derived.Test.YtajgenjfhcapjaaFwWrI
import Derived.StillTailTactics
import Derived.Deep.RegionHeld3
import Derived.Deep.Cut
import Derived.Deep.CutRange
namespace Go.Proofs.Ytajgenjfhcapjaa
open Go Go.RowKit

set_option maxRecDepth 100000 in
set_option maxHeartbeats 16000000 in
theorem filWrite_spec (v u : Value) (S : StoD) (F : FilD) (hS : StoSm S) (hF : F.xs.length ≤ 10000000) (off : Int) (data : ByteArray) (hd : data.size ≤ 9223372036854775807) {S' : StoD} {F' : FilD} {ok : Bool}
    (hP : writeP S F off data = (S', F', ok)) (w : World) (h : IsSto w v S) (h2 : IsFil w u F) :
    Calls Try.prog 6 #[v, u, .int .i64 off, .string data] w (WrPost w S' F' ok) := by
  obtain ⟨A1, c1, A2, c2, rfl, r1, r2⟩ := h
  obtain ⟨A3, c3, rfl, r3⟩ := h2
  obtain ⟨n1, hl1⟩ : ∃ n, S.bs.length = n := ⟨_, rfl⟩
  obtain ⟨n2, hl2⟩ : ∃ n, S.ds.length = n := ⟨_, rfl⟩
  obtain ⟨n3, hl3⟩ : ∃ n, F.xs.length = n := ⟨_, rfl⟩
  obtain ⟨sz, hsz⟩ : ∃ n, F.sz = n := ⟨_, rfl⟩
  have HSto := Lib.hid (show ∀ W, Below w.heap.size w W → IsSto W (.agg #[.slice A1 n1 c1, .slice A2 n2 c2]) S from fun W hb => ⟨A1, c1, A2, c2, by rw [hl1, hl2], r1.nxt hb, r2.nxt hb⟩)
  have HFil := Lib.hid (show ∀ W, Below w.heap.size w W → IsFil W (.agg #[.int .i64 sz, .slice A3 n3 c3]) F from fun W hb => ⟨A3, c3, by rw [hl3, hsz], r3.nxt hb⟩)
  have HS := Lib.hid hS
  have HF := Lib.hid hF
  have HP := Lib.hid hP
  have Hsz := Lib.hid hsz
  have Hl1 := Lib.hid hl1
  have Hl2 := Lib.hid hl2
  have Hl3 := Lib.hid hl3
  rw [hl1, hl2, hl3, hsz]
  clear r1 r2 r3 hl1 hl2 hl3 hsz hS hF hP
  obtain ⟨W1, hW1⟩ : ∃ W1, (((w.alloc (.cells #[.slice A1 n1 c1, .slice A2 n2 c2] 31)).alloc (.cells #[.int .i64 sz, .slice A3 n3 c3] 34)).alloc (.cells #[.slice none 0 0, .slice none 0 0] 31)).alloc (.cells #[.int .i64 0, .slice none 0 0] 34) = W1 := ⟨_, rfl⟩
  have X : Blk W1 w.heap.size 31 #[.slice A1 n1 c1, .slice A2 n2 c2] := by rw [← hW1]; exact (((Blk.new' _ _ _ _ rfl).alloc _).alloc _).alloc _
  have Y : Blk W1 (w.heap.size + 1) 34 #[.int .i64 sz, .slice A3 n3 c3] := by rw [← hW1]; exact ((Blk.new' _ _ _ _ (by simp)).alloc _).alloc _
  have RS : Blk W1 (w.heap.size + 2) 31 #[.slice none 0 0, .slice none 0 0] := by rw [← hW1]; exact (Blk.new' _ _ _ _ (by simp)).alloc _
  have RF : Blk W1 (w.heap.size + 3) 34 #[.int .i64 0, .slice none 0 0] := by rw [← hW1]; exact Blk.new' _ _ _ _ (by simp)
  have B1 : Below w.heap.size w W1 := by rw [← hW1]; exact belA (belA (belA (belA (bel0 w) _) _) _) _
  go_enter Try.func6, Try.ntmps6
  have x0 := X.get (x := .slice A1 n1 c1) 0 rfl
  have x1 := X.get (x := .slice A2 n2 c2) 1 rfl
  have y0 := Y.get (x := .int .i64 sz) 0 rfl
  have y1 := Y.get (x := .slice A3 n3 c3) 1 rfl
  have lX := X.lt
  have lY := Y.lt
  have kX := Lib.hid X
  have kY := Lib.hid Y
  have kRS := Lib.hid RS
  have kRF := Lib.hid RF
  have BC := B1
  clear X Y RS RF B1
  go_wp2_with fail
  try rw [hW1]
  clear hW1 x0 x1 y0 y1 lX lY
  refine (filOk_spec _ _ S F HS.out HF.out _ (HSto.out _ BC) (HFil.out _ BC)).mono ?_
  rintro e w2 ⟨rfl, hb2⟩
  replace kX := Lib.hid (kX.out.below hb2 kX.out.lt)
  replace kY := Lib.hid (kY.out.below hb2 kY.out.lt)
  replace kRS := Lib.hid (kRS.out.below hb2 kRS.out.lt)
  replace kRF := Lib.hid (kRF.out.below hb2 kRF.out.lt)
  replace BC := BC.trans (hb2.mono BC.size)
  clear hb2
  have wds : IntKind.i64.wrap (48 - (data.size : Int)) = 48 - (data.size : Int) := by rw [IntKind.wrap_i64]; omega
  cases hok : filOkB S F
  · have HPe := Lib.hid (show S = S' ∧ F = F' ∧ false = ok by have h := HP.out; unfold writeP at h; rw [hok] at h; simpa using h)
    go_upto_region 2 with fail
    refine wp_region_held_drew (S := fun w' => w'.cell? ⟨w.heap.size, 0, none⟩ = some (.slice A1 n1 c1) ∧ w'.cell? ⟨w.heap.size, 1, none⟩ = some (.slice A2 n2 c2) ∧ w'.cell? ⟨(w.heap.size + 1), 0, none⟩ = some (.int .i64 sz) ∧ w'.cell? ⟨(w.heap.size + 1), 1, none⟩ = some (.slice A3 n3 c3)) (by kernel_rfl) (by exact ⟨(kX.out).get 0 rfl, (kX.out).get 1 rfl, (kY.out).get 0 rfl, (kY.out).get 1 rfl⟩) (fun hHeld => ?_)
    clear hHeld
    refine foldH ?_
    intro r0 hr0
    have bw0 : Below w.heap.size w r0 := by rw [hr0]; exact (BC).drew
    have kX0 : Blk r0 w.heap.size 31 #[.slice A1 n1 c1, .slice A2 n2 c2] := by rw [hr0]; exact kX.out.drew
    have kY0 : Blk r0 (w.heap.size + 1) 34 #[.int .i64 sz, .slice A3 n3 c3] := by rw [hr0]; exact kY.out.drew
    have kRS0 : Blk r0 (w.heap.size + 2) 31 #[.slice none 0 0, .slice none 0 0] := by rw [hr0]; exact kRS.out.drew
    have kRF0 : Blk r0 (w.heap.size + 3) 34 #[.int .i64 0, .slice none 0 0] := by rw [hr0]; exact kRF.out.drew
    clear hr0
    refine wpAnyH_take (i := 0) (oi := ?oi1101) (v := ?v1101) ?hi1101 ?hs1101 ?hf1101 ?hr1101 ?hQ1101 ?hy1101 ?hS1101 ?hrest1101
    case hi1101 => (conv => lhs; simp only [List.getElem?_toArray, List.getElem?_cons_zero]); try exact rfl
    case hs1101 => kernel_rfl
    case hf1101 => kernel_rfl
    case hr1101 => kernel_rfl
    case hQ1101 => exact fun _ _ _ h => h
    case hS1101 => exact ⟨(kX0).get 0 rfl, (kX0).get 1 rfl, (kY0).get 0 rfl, (kY0).get 1 rfl⟩
    case hy1101 => refine Or.inl ⟨by rfl, ?_⟩; intro w hSw; (try dsimp only at hSw); go_simp; (try with_reducible rfl)
    simp only [Act.put, List.setIfInBounds_toArray, List.set_cons_zero, List.set_cons_succ]
    refine wpAnyH_take (i := 2) (oi := ?oi1102) (v := ?v1102) ?hi1102 ?hs1102 ?hf1102 ?hr1102 ?hQ1102 ?hy1102 ?hS1102 ?hrest1102
    case hi1102 => (conv => lhs; simp only [List.getElem?_toArray, List.getElem?_cons_zero, List.getElem?_cons_succ]); try exact rfl
    case hs1102 => kernel_rfl
    case hf1102 => kernel_rfl
    case hr1102 => kernel_rfl
    case hQ1102 => exact fun _ _ _ h => h
    case hS1102 => exact ⟨(kX0).get 0 rfl, (kX0).get 1 rfl, (kY0).get 0 rfl, (kY0).get 1 rfl⟩
    case hy1102 => refine Or.inl ⟨by rfl, ?_⟩; intro w hSw; (try dsimp only at hSw); go_simp; (try with_reducible rfl)
    simp only [Act.put, List.setIfInBounds_toArray, List.set_cons_zero, List.set_cons_succ]
    refine wpAnyH_ready (rs := [1]) (by kernel_rfl) (by simp) ?_
    refine AllReadyH.cons (o := ?oi1103) ?hi1103 (fun K hK => ?br1103) AllReadyH.nil
    case hi1103 => (conv => lhs; simp only [List.getElem?_toArray, List.getElem?_cons_zero, List.getElem?_cons_succ]); try exact rfl
    case br1103 =>
      go_simp
      go_at_call 20
      refine (copyStore_spec _ S HS.out _ (HSto.out _ bw0)).mono ?_
      rintro e r1 ⟨_, rfl, hOS, hb1r⟩
      have bw1 : Below w.heap.size w r1 := bw0.trans (hb1r.mono bw0.size)
      have kX1 : Blk r1 w.heap.size 31 #[.slice A1 n1 c1, .slice A2 n2 c2] := kX0.below hb1r kX0.lt
      have kY1 : Blk r1 (w.heap.size + 1) 34 #[.int .i64 sz, .slice A3 n3 c3] := kY0.below hb1r kY0.lt
      have kRS1 : Blk r1 (w.heap.size + 2) 31 #[.slice none 0 0, .slice none 0 0] := kRS0.below hb1r kRS0.lt
      have kRF1 : Blk r1 (w.heap.size + 3) 34 #[.int .i64 0, .slice none 0 0] := kRF0.below hb1r kRF0.lt
      obtain ⟨_, _, rfl, oa, ob⟩ := hOS
      rw [Hl1.out] at oa
      rw [Hl2.out] at ob
      obtain ⟨D2, D2c, rfl, _, _, _⟩ := own_vals oa
      obtain ⟨D3, D3c, rfl, _, _, _⟩ := own_vals ob
      have oD21 := own_more oa bw0.size
      have oD31 := own_more ob bw0.size
      clear oa ob
      refine hK.out _ _ (by exact ⟨(kX1).get 0 rfl, (kX1).get 1 rfl, (kY1).get 0 rfl, (kY1).get 1 rfl⟩) (fun _ => ?_)
      clear hK K
      refine wpAnyH_ready (rs := [3]) (by kernel_rfl) (by simp) ?_
      refine AllReadyH.cons (o := ?oi1104) ?hi1104 (fun K hK => ?br1104) AllReadyH.nil
      case hi1104 => (conv => lhs; simp only [List.getElem?_toArray, List.getElem?_cons_zero, List.getElem?_cons_succ]); try exact rfl
      case br1104 =>
        go_simp
        go_at_call 21
        refine (copyFil_spec _ F HF.out _ (HFil.out _ bw1)).mono ?_
        rintro e r2 ⟨_, rfl, hOF, hb2r⟩
        have bw2 : Below w.heap.size w r2 := bw1.trans (hb2r.mono bw1.size)
        have kX2 : Blk r2 w.heap.size 31 #[.slice A1 n1 c1, .slice A2 n2 c2] := kX1.below hb2r kX1.lt
        have kY2 : Blk r2 (w.heap.size + 1) 34 #[.int .i64 sz, .slice A3 n3 c3] := kY1.below hb2r kY1.lt
        have kRS2 : Blk r2 (w.heap.size + 2) 31 #[.slice none 0 0, .slice none 0 0] := kRS1.below hb2r kRS1.lt
        have kRF2 : Blk r2 (w.heap.size + 3) 34 #[.int .i64 0, .slice none 0 0] := kRF1.below hb2r kRF1.lt
        have oD22 : r2.ownsRow w.heap.size 4 1 (.slice D2 n1 D2c) n1 (BS S.bs) := own_below oD21 hb2r (Nat.le_refl _)
        have oD32 : r2.ownsRow w.heap.size 9 1 (.slice D3 n2 D3c) n2 (SS S.ds) := own_below oD31 hb2r (Nat.le_refl _)
        obtain ⟨_, rfl, oa⟩ := hOF
        rw [Hl3.out] at oa
        rw [Hsz.out]
        obtain ⟨D4, D4c, rfl, _, _, _⟩ := own_vals oa
        have oD42 := own_more oa bw1.size
        clear oa
        refine hK.out _ _ (by exact ⟨(kX2).get 0 rfl, (kX2).get 1 rfl, (kY2).get 0 rfl, (kY2).get 1 rfl⟩) (fun _ => ?_)
        clear hK K
        refine wpAnyH_ready (rs := [4]) (by kernel_rfl) (by simp) ?_
        refine AllReadyH.cons (o := ?oi1105) ?hi1105 (fun K hK => ?br1105) AllReadyH.nil
        case hi1105 => (conv => lhs; simp only [List.getElem?_toArray, List.getElem?_cons_zero, List.getElem?_cons_succ]); try exact rfl
        case br1105 =>
          have x3_0 := kRS2.get (x := .slice none 0 0) 0 rfl
          have f3_0 := kRS2.frozen 0
          have x3_1 := kRS2.get (x := .slice none 0 0) 1 rfl
          have f3_1 := kRS2.frozen 1
          have lE3 := kRS2.lt
          have neX3 : w.heap.size ≠ (w.heap.size + 2) := by have := kRS2.lt; have := kX2.lt; first | exact Blk.ne_ kX2 kRS2 (by decide) | omega
          have neY3 : (w.heap.size + 1) ≠ (w.heap.size + 2) := by have := kRS2.lt; have := kY2.lt; first | exact Blk.ne_ kY2 kRS2 (by decide) | omega
          have neRF3 : (w.heap.size + 3) ≠ (w.heap.size + 2) := by have := kRS2.lt; have := kRF2.lt; first | exact Blk.ne_ kRF2 kRS2 (by decide) | omega
          go_simp
          refine hK.out _ _ (by exact ⟨(((kX2).far (p := ⟨(w.heap.size + 2), 0, none⟩) neX3 (.slice D2 n1 D2c)).far (p := ⟨(w.heap.size + 2), 1, none⟩) neX3 (.slice D3 n2 D3c)).get 0 rfl, (((kX2).far (p := ⟨(w.heap.size + 2), 0, none⟩) neX3 (.slice D2 n1 D2c)).far (p := ⟨(w.heap.size + 2), 1, none⟩) neX3 (.slice D3 n2 D3c)).get 1 rfl, (((kY2).far (p := ⟨(w.heap.size + 2), 0, none⟩) neY3 (.slice D2 n1 D2c)).far (p := ⟨(w.heap.size + 2), 1, none⟩) neY3 (.slice D3 n2 D3c)).get 0 rfl, (((kY2).far (p := ⟨(w.heap.size + 2), 0, none⟩) neY3 (.slice D2 n1 D2c)).far (p := ⟨(w.heap.size + 2), 1, none⟩) neY3 (.slice D3 n2 D3c)).get 1 rfl⟩) (fun _ => ?_)
          clear hK K x3_0 f3_0 x3_1 f3_1 lE3
          refine foldH ?_
          intro r3 hr3
          have bw3 : Below w.heap.size w r3 := by rw [hr3]; exact belC (belC (bw2) _ 0 (by omega) (.slice D2 n1 D2c)) _ 1 (by omega) (.slice D3 n2 D3c)
          have kX3 : Blk r3 w.heap.size 31 #[.slice A1 n1 c1, .slice A2 n2 c2] := by rw [hr3]; exact ((kX2).far (p := ⟨(w.heap.size + 2), 0, none⟩) neX3 (.slice D2 n1 D2c)).far (p := ⟨(w.heap.size + 2), 1, none⟩) neX3 (.slice D3 n2 D3c)
          have kY3 : Blk r3 (w.heap.size + 1) 34 #[.int .i64 sz, .slice A3 n3 c3] := by rw [hr3]; exact ((kY2).far (p := ⟨(w.heap.size + 2), 0, none⟩) neY3 (.slice D2 n1 D2c)).far (p := ⟨(w.heap.size + 2), 1, none⟩) neY3 (.slice D3 n2 D3c)
          have kRS3 : Blk r3 (w.heap.size + 2) 31 #[.slice D2 n1 D2c, .slice D3 n2 D3c] := by rw [hr3]; exact ((kRS2.put 0 (.slice D2 n1 D2c) #[.slice D2 n1 D2c, .slice none 0 0] rfl).put 1 (.slice D3 n2 D3c) #[.slice D2 n1 D2c, .slice D3 n2 D3c] rfl)
          have kRF3 : Blk r3 (w.heap.size + 3) 34 #[.int .i64 0, .slice none 0 0] := by rw [hr3]; exact ((kRF2).far (p := ⟨(w.heap.size + 2), 0, none⟩) neRF3 (.slice D2 n1 D2c)).far (p := ⟨(w.heap.size + 2), 1, none⟩) neRF3 (.slice D3 n2 D3c)
          have oD23 : r3.ownsRow w.heap.size 4 1 (.slice D2 n1 D2c) n1 (BS S.bs) := by rw [hr3]; exact own_farT (own_farT (oD22) kRS2 (by decide) 0 (.slice D2 n1 D2c)) (kRS2.put 0 (.slice D2 n1 D2c) #[.slice D2 n1 D2c, .slice none 0 0] rfl) (by decide) 1 (.slice D3 n2 D3c)
          have oD33 : r3.ownsRow w.heap.size 9 1 (.slice D3 n2 D3c) n2 (SS S.ds) := by rw [hr3]; exact own_farT (own_farT (oD32) kRS2 (by decide) 0 (.slice D2 n1 D2c)) (kRS2.put 0 (.slice D2 n1 D2c) #[.slice D2 n1 D2c, .slice none 0 0] rfl) (by decide) 1 (.slice D3 n2 D3c)
          have oD43 : r3.ownsRow w.heap.size 76 3 (.slice D4 n3 D4c) n3 (XS F.xs) := by rw [hr3]; exact own_farT (own_farT (oD42) kRS2 (by decide) 0 (.slice D2 n1 D2c)) (kRS2.put 0 (.slice D2 n1 D2c) #[.slice D2 n1 D2c, .slice none 0 0] rfl) (by decide) 1 (.slice D3 n2 D3c)
          clear hr3
          refine wpAnyH_ready (rs := [5]) (by kernel_rfl) (by simp) ?_
          refine AllReadyH.cons (o := ?oi1106) ?hi1106 (fun K hK => ?br1106) AllReadyH.nil
          case hi1106 => (conv => lhs; simp only [List.getElem?_toArray, List.getElem?_cons_zero, List.getElem?_cons_succ]); try exact rfl
          case br1106 =>
            have x4_0 := kRF3.get (x := .int .i64 0) 0 rfl
            have f4_0 := kRF3.frozen 0
            have x4_1 := kRF3.get (x := .slice none 0 0) 1 rfl
            have f4_1 := kRF3.frozen 1
            have lE4 := kRF3.lt
            have neX4 : w.heap.size ≠ (w.heap.size + 3) := by have := kRF3.lt; have := kX3.lt; first | exact Blk.ne_ kX3 kRF3 (by decide) | omega
            have neY4 : (w.heap.size + 1) ≠ (w.heap.size + 3) := by have := kRF3.lt; have := kY3.lt; first | exact Blk.ne_ kY3 kRF3 (by decide) | omega
            have neRS4 : (w.heap.size + 2) ≠ (w.heap.size + 3) := by have := kRF3.lt; have := kRS3.lt; first | exact Blk.ne_ kRS3 kRF3 (by decide) | omega
            go_simp
            refine hK.out _ _ (by exact ⟨(((kX3).far (p := ⟨(w.heap.size + 3), 0, none⟩) neX4 (.int .i64 sz)).far (p := ⟨(w.heap.size + 3), 1, none⟩) neX4 (.slice D4 n3 D4c)).get 0 rfl, (((kX3).far (p := ⟨(w.heap.size + 3), 0, none⟩) neX4 (.int .i64 sz)).far (p := ⟨(w.heap.size + 3), 1, none⟩) neX4 (.slice D4 n3 D4c)).get 1 rfl, (((kY3).far (p := ⟨(w.heap.size + 3), 0, none⟩) neY4 (.int .i64 sz)).far (p := ⟨(w.heap.size + 3), 1, none⟩) neY4 (.slice D4 n3 D4c)).get 0 rfl, (((kY3).far (p := ⟨(w.heap.size + 3), 0, none⟩) neY4 (.int .i64 sz)).far (p := ⟨(w.heap.size + 3), 1, none⟩) neY4 (.slice D4 n3 D4c)).get 1 rfl⟩) (fun _ => ?_)
            clear hK K x4_0 f4_0 x4_1 f4_1 lE4
            refine foldH ?_
            intro r4 hr4
            have bw4 : Below w.heap.size w r4 := by rw [hr4]; exact belC (belC (bw3) _ 0 (by omega) (.int .i64 sz)) _ 1 (by omega) (.slice D4 n3 D4c)
            have kX4 : Blk r4 w.heap.size 31 #[.slice A1 n1 c1, .slice A2 n2 c2] := by rw [hr4]; exact ((kX3).far (p := ⟨(w.heap.size + 3), 0, none⟩) neX4 (.int .i64 sz)).far (p := ⟨(w.heap.size + 3), 1, none⟩) neX4 (.slice D4 n3 D4c)
            have kY4 : Blk r4 (w.heap.size + 1) 34 #[.int .i64 sz, .slice A3 n3 c3] := by rw [hr4]; exact ((kY3).far (p := ⟨(w.heap.size + 3), 0, none⟩) neY4 (.int .i64 sz)).far (p := ⟨(w.heap.size + 3), 1, none⟩) neY4 (.slice D4 n3 D4c)
            have kRS4 : Blk r4 (w.heap.size + 2) 31 #[.slice D2 n1 D2c, .slice D3 n2 D3c] := by rw [hr4]; exact ((kRS3).far (p := ⟨(w.heap.size + 3), 0, none⟩) neRS4 (.int .i64 sz)).far (p := ⟨(w.heap.size + 3), 1, none⟩) neRS4 (.slice D4 n3 D4c)
            have kRF4 : Blk r4 (w.heap.size + 3) 34 #[.int .i64 sz, .slice D4 n3 D4c] := by rw [hr4]; exact ((kRF3.put 0 (.int .i64 sz) #[.int .i64 sz, .slice none 0 0] rfl).put 1 (.slice D4 n3 D4c) #[.int .i64 sz, .slice D4 n3 D4c] rfl)
            have oD24 : r4.ownsRow w.heap.size 4 1 (.slice D2 n1 D2c) n1 (BS S.bs) := by rw [hr4]; exact own_farT (own_farT (oD23) kRF3 (by decide) 0 (.int .i64 sz)) (kRF3.put 0 (.int .i64 sz) #[.int .i64 sz, .slice none 0 0] rfl) (by decide) 1 (.slice D4 n3 D4c)
            have oD34 : r4.ownsRow w.heap.size 9 1 (.slice D3 n2 D3c) n2 (SS S.ds) := by rw [hr4]; exact own_farT (own_farT (oD33) kRF3 (by decide) 0 (.int .i64 sz)) (kRF3.put 0 (.int .i64 sz) #[.int .i64 sz, .slice none 0 0] rfl) (by decide) 1 (.slice D4 n3 D4c)
            have oD44 : r4.ownsRow w.heap.size 76 3 (.slice D4 n3 D4c) n3 (XS F.xs) := by rw [hr4]; exact own_farT (own_farT (oD43) kRF3 (by decide) 0 (.int .i64 sz)) (kRF3.put 0 (.int .i64 sz) #[.int .i64 sz, .slice none 0 0] rfl) (by decide) 1 (.slice D4 n3 D4c)
            clear hr4
            refine wpAnyH_take (i := 6) (oi := ?oi1107) (v := ?v1107) ?hi1107 ?hs1107 ?hf1107 ?hr1107 ?hQ1107 ?hy1107 ?hS1107 ?hrest1107
            case hi1107 => (conv => lhs; simp only [List.getElem?_toArray, List.getElem?_cons_zero, List.getElem?_cons_succ]); try exact rfl
            case hs1107 => kernel_rfl
            case hf1107 => kernel_rfl
            case hr1107 => kernel_rfl
            case hQ1107 => exact fun _ _ _ h => h
            case hS1107 => exact ⟨(kX4).get 0 rfl, (kX4).get 1 rfl, (kY4).get 0 rfl, (kY4).get 1 rfl⟩
            case hy1107 => refine Or.inl ⟨by rfl, ?_⟩; intro w hSw; (try dsimp only at hSw); go_simp; (try with_reducible rfl)
            simp only [Act.put, List.setIfInBounds_toArray, List.set_cons_zero, List.set_cons_succ]
            refine wpAnyH_done (by kernel_rfl) ?_ _
            have r0f := kRS4.get (x := .slice D2 n1 D2c) 0 rfl
            have r1f := kRS4.get (x := .slice D3 n2 D3c) 1 rfl
            have r2f := kRF4.get (x := .int .i64 sz) 0 rfl
            have r3f := kRF4.get (x := .slice D4 n3 D4c) 1 rfl
            have OO1 := Lib.hid (own_eqn oD24 Hl1.out.symm)
            have OO2 := Lib.hid (own_eqn oD34 Hl2.out.symm)
            have OO3 := Lib.hid (own_eqn oD44 Hl3.out.symm)
            have lF1 := kRS4.lt
            have lF2 := kRF4.lt
            have BE := bw4
            clear kX4 kY4 kRS4 kRF4 oD24 oD34 oD44
            go_wp2
            obtain ⟨rfl, rfl, rfl⟩ := HPe.out
            exact bodyPost_ret (v := .tuple #[.agg #[.slice D2 n1 D2c, .slice D3 n2 D3c], .agg #[.int .i64 sz, .slice D4 n3 D4c], .bool false]) (by simp [results, Try.results6, go_sem, r0f, r1f, r2f, r3f]) rfl (wrPost_of (Hsz.out) OO1.out OO2.out OO3.out BE)
  by_cases hoff : off < 0
  · have HPe := Lib.hid (show S = S' ∧ F = F' ∧ false = ok by have h := HP.out; unfold writeP at h; rw [if_neg (by omega)] at h; simpa using h)
    have hoffb : decide (off < 0) = true := by simpa using hoff
    go_upto_region 2 with fail
    refine wp_region_held_drew (S := fun w' => w'.cell? ⟨w.heap.size, 0, none⟩ = some (.slice A1 n1 c1) ∧ w'.cell? ⟨w.heap.size, 1, none⟩ = some (.slice A2 n2 c2) ∧ w'.cell? ⟨(w.heap.size + 1), 0, none⟩ = some (.int .i64 sz) ∧ w'.cell? ⟨(w.heap.size + 1), 1, none⟩ = some (.slice A3 n3 c3)) (by kernel_rfl) (by exact ⟨(kX.out).get 0 rfl, (kX.out).get 1 rfl, (kY.out).get 0 rfl, (kY.out).get 1 rfl⟩) (fun hHeld => ?_)
    clear hHeld
    refine foldH ?_
    intro r0 hr0
    have bw0 : Below w.heap.size w r0 := by rw [hr0]; exact (BC).drew
    have kX0 : Blk r0 w.heap.size 31 #[.slice A1 n1 c1, .slice A2 n2 c2] := by rw [hr0]; exact kX.out.drew
    have kY0 : Blk r0 (w.heap.size + 1) 34 #[.int .i64 sz, .slice A3 n3 c3] := by rw [hr0]; exact kY.out.drew
    have kRS0 : Blk r0 (w.heap.size + 2) 31 #[.slice none 0 0, .slice none 0 0] := by rw [hr0]; exact kRS.out.drew
    have kRF0 : Blk r0 (w.heap.size + 3) 34 #[.int .i64 0, .slice none 0 0] := by rw [hr0]; exact kRF.out.drew
    clear hr0
    refine wpAnyH_take (i := 0) (oi := ?oi1201) (v := ?v1201) ?hi1201 ?hs1201 ?hf1201 ?hr1201 ?hQ1201 ?hy1201 ?hS1201 ?hrest1201
    case hi1201 => (conv => lhs; simp only [List.getElem?_toArray, List.getElem?_cons_zero]); try exact rfl
    case hs1201 => kernel_rfl
    case hf1201 => kernel_rfl
    case hr1201 => kernel_rfl
    case hQ1201 => exact fun _ _ _ h => h
    case hS1201 => exact ⟨(kX0).get 0 rfl, (kX0).get 1 rfl, (kY0).get 0 rfl, (kY0).get 1 rfl⟩
    case hy1201 => refine Or.inl ⟨by rfl, ?_⟩; intro w hSw; (try dsimp only at hSw); go_simp; (try with_reducible rfl)
    simp only [Act.put, List.setIfInBounds_toArray, List.set_cons_zero, List.set_cons_succ]
    refine wpAnyH_take (i := 2) (oi := ?oi1202) (v := ?v1202) ?hi1202 ?hs1202 ?hf1202 ?hr1202 ?hQ1202 ?hy1202 ?hS1202 ?hrest1202
    case hi1202 => (conv => lhs; simp only [List.getElem?_toArray, List.getElem?_cons_zero, List.getElem?_cons_succ]); try exact rfl
    case hs1202 => kernel_rfl
    case hf1202 => kernel_rfl
    case hr1202 => kernel_rfl
    case hQ1202 => exact fun _ _ _ h => h
    case hS1202 => exact ⟨(kX0).get 0 rfl, (kX0).get 1 rfl, (kY0).get 0 rfl, (kY0).get 1 rfl⟩
    case hy1202 => refine Or.inl ⟨by rfl, ?_⟩; intro w hSw; (try dsimp only at hSw); go_simp; (try with_reducible rfl)
    simp only [Act.put, List.setIfInBounds_toArray, List.set_cons_zero, List.set_cons_succ]
    refine wpAnyH_ready (rs := [1]) (by kernel_rfl) (by simp) ?_
    refine AllReadyH.cons (o := ?oi1203) ?hi1203 (fun K hK => ?br1203) AllReadyH.nil
    case hi1203 => (conv => lhs; simp only [List.getElem?_toArray, List.getElem?_cons_zero, List.getElem?_cons_succ]); try exact rfl
    case br1203 =>
      go_simp
      go_at_call 20
      refine (copyStore_spec _ S HS.out _ (HSto.out _ bw0)).mono ?_
      rintro e r1 ⟨_, rfl, hOS, hb1r⟩
      have bw1 : Below w.heap.size w r1 := bw0.trans (hb1r.mono bw0.size)
      have kX1 : Blk r1 w.heap.size 31 #[.slice A1 n1 c1, .slice A2 n2 c2] := kX0.below hb1r kX0.lt
      have kY1 : Blk r1 (w.heap.size + 1) 34 #[.int .i64 sz, .slice A3 n3 c3] := kY0.below hb1r kY0.lt
      have kRS1 : Blk r1 (w.heap.size + 2) 31 #[.slice none 0 0, .slice none 0 0] := kRS0.below hb1r kRS0.lt
      have kRF1 : Blk r1 (w.heap.size + 3) 34 #[.int .i64 0, .slice none 0 0] := kRF0.below hb1r kRF0.lt
      obtain ⟨_, _, rfl, oa, ob⟩ := hOS
      rw [Hl1.out] at oa
      rw [Hl2.out] at ob
      obtain ⟨D2, D2c, rfl, _, _, _⟩ := own_vals oa
      obtain ⟨D3, D3c, rfl, _, _, _⟩ := own_vals ob
      have oD21 := own_more oa bw0.size
      have oD31 := own_more ob bw0.size
      clear oa ob
      refine hK.out _ _ (by exact ⟨(kX1).get 0 rfl, (kX1).get 1 rfl, (kY1).get 0 rfl, (kY1).get 1 rfl⟩) (fun _ => ?_)
      clear hK K
      refine wpAnyH_ready (rs := [3]) (by kernel_rfl) (by simp) ?_
      refine AllReadyH.cons (o := ?oi1204) ?hi1204 (fun K hK => ?br1204) AllReadyH.nil
      case hi1204 => (conv => lhs; simp only [List.getElem?_toArray, List.getElem?_cons_zero, List.getElem?_cons_succ]); try exact rfl
      case br1204 =>
        go_simp
        go_at_call 21
        refine (copyFil_spec _ F HF.out _ (HFil.out _ bw1)).mono ?_
        rintro e r2 ⟨_, rfl, hOF, hb2r⟩
        have bw2 : Below w.heap.size w r2 := bw1.trans (hb2r.mono bw1.size)
        have kX2 : Blk r2 w.heap.size 31 #[.slice A1 n1 c1, .slice A2 n2 c2] := kX1.below hb2r kX1.lt
        have kY2 : Blk r2 (w.heap.size + 1) 34 #[.int .i64 sz, .slice A3 n3 c3] := kY1.below hb2r kY1.lt
        have kRS2 : Blk r2 (w.heap.size + 2) 31 #[.slice none 0 0, .slice none 0 0] := kRS1.below hb2r kRS1.lt
        have kRF2 : Blk r2 (w.heap.size + 3) 34 #[.int .i64 0, .slice none 0 0] := kRF1.below hb2r kRF1.lt
        have oD22 : r2.ownsRow w.heap.size 4 1 (.slice D2 n1 D2c) n1 (BS S.bs) := own_below oD21 hb2r (Nat.le_refl _)
        have oD32 : r2.ownsRow w.heap.size 9 1 (.slice D3 n2 D3c) n2 (SS S.ds) := own_below oD31 hb2r (Nat.le_refl _)
        obtain ⟨_, rfl, oa⟩ := hOF
        rw [Hl3.out] at oa
        rw [Hsz.out]
        obtain ⟨D4, D4c, rfl, _, _, _⟩ := own_vals oa
        have oD42 := own_more oa bw1.size
        clear oa
        refine hK.out _ _ (by exact ⟨(kX2).get 0 rfl, (kX2).get 1 rfl, (kY2).get 0 rfl, (kY2).get 1 rfl⟩) (fun _ => ?_)
        clear hK K
        refine wpAnyH_ready (rs := [4]) (by kernel_rfl) (by simp) ?_
        refine AllReadyH.cons (o := ?oi1205) ?hi1205 (fun K hK => ?br1205) AllReadyH.nil
        case hi1205 => (conv => lhs; simp only [List.getElem?_toArray, List.getElem?_cons_zero, List.getElem?_cons_succ]); try exact rfl
        case br1205 =>
          have x3_0 := kRS2.get (x := .slice none 0 0) 0 rfl
          have f3_0 := kRS2.frozen 0
          have x3_1 := kRS2.get (x := .slice none 0 0) 1 rfl
          have f3_1 := kRS2.frozen 1
          have lE3 := kRS2.lt
          have neX3 : w.heap.size ≠ (w.heap.size + 2) := by have := kRS2.lt; have := kX2.lt; first | exact Blk.ne_ kX2 kRS2 (by decide) | omega
          have neY3 : (w.heap.size + 1) ≠ (w.heap.size + 2) := by have := kRS2.lt; have := kY2.lt; first | exact Blk.ne_ kY2 kRS2 (by decide) | omega
          have neRF3 : (w.heap.size + 3) ≠ (w.heap.size + 2) := by have := kRS2.lt; have := kRF2.lt; first | exact Blk.ne_ kRF2 kRS2 (by decide) | omega
          go_simp
          refine hK.out _ _ (by exact ⟨(((kX2).far (p := ⟨(w.heap.size + 2), 0, none⟩) neX3 (.slice D2 n1 D2c)).far (p := ⟨(w.heap.size + 2), 1, none⟩) neX3 (.slice D3 n2 D3c)).get 0 rfl, (((kX2).far (p := ⟨(w.heap.size + 2), 0, none⟩) neX3 (.slice D2 n1 D2c)).far (p := ⟨(w.heap.size + 2), 1, none⟩) neX3 (.slice D3 n2 D3c)).get 1 rfl, (((kY2).far (p := ⟨(w.heap.size + 2), 0, none⟩) neY3 (.slice D2 n1 D2c)).far (p := ⟨(w.heap.size + 2), 1, none⟩) neY3 (.slice D3 n2 D3c)).get 0 rfl, (((kY2).far (p := ⟨(w.heap.size + 2), 0, none⟩) neY3 (.slice D2 n1 D2c)).far (p := ⟨(w.heap.size + 2), 1, none⟩) neY3 (.slice D3 n2 D3c)).get 1 rfl⟩) (fun _ => ?_)
          clear hK K x3_0 f3_0 x3_1 f3_1 lE3
          refine foldH ?_
          intro r3 hr3
          have bw3 : Below w.heap.size w r3 := by rw [hr3]; exact belC (belC (bw2) _ 0 (by omega) (.slice D2 n1 D2c)) _ 1 (by omega) (.slice D3 n2 D3c)
          have kX3 : Blk r3 w.heap.size 31 #[.slice A1 n1 c1, .slice A2 n2 c2] := by rw [hr3]; exact ((kX2).far (p := ⟨(w.heap.size + 2), 0, none⟩) neX3 (.slice D2 n1 D2c)).far (p := ⟨(w.heap.size + 2), 1, none⟩) neX3 (.slice D3 n2 D3c)
          have kY3 : Blk r3 (w.heap.size + 1) 34 #[.int .i64 sz, .slice A3 n3 c3] := by rw [hr3]; exact ((kY2).far (p := ⟨(w.heap.size + 2), 0, none⟩) neY3 (.slice D2 n1 D2c)).far (p := ⟨(w.heap.size + 2), 1, none⟩) neY3 (.slice D3 n2 D3c)
          have kRS3 : Blk r3 (w.heap.size + 2) 31 #[.slice D2 n1 D2c, .slice D3 n2 D3c] := by rw [hr3]; exact ((kRS2.put 0 (.slice D2 n1 D2c) #[.slice D2 n1 D2c, .slice none 0 0] rfl).put 1 (.slice D3 n2 D3c) #[.slice D2 n1 D2c, .slice D3 n2 D3c] rfl)
          have kRF3 : Blk r3 (w.heap.size + 3) 34 #[.int .i64 0, .slice none 0 0] := by rw [hr3]; exact ((kRF2).far (p := ⟨(w.heap.size + 2), 0, none⟩) neRF3 (.slice D2 n1 D2c)).far (p := ⟨(w.heap.size + 2), 1, none⟩) neRF3 (.slice D3 n2 D3c)
          have oD23 : r3.ownsRow w.heap.size 4 1 (.slice D2 n1 D2c) n1 (BS S.bs) := by rw [hr3]; exact own_farT (own_farT (oD22) kRS2 (by decide) 0 (.slice D2 n1 D2c)) (kRS2.put 0 (.slice D2 n1 D2c) #[.slice D2 n1 D2c, .slice none 0 0] rfl) (by decide) 1 (.slice D3 n2 D3c)
          have oD33 : r3.ownsRow w.heap.size 9 1 (.slice D3 n2 D3c) n2 (SS S.ds) := by rw [hr3]; exact own_farT (own_farT (oD32) kRS2 (by decide) 0 (.slice D2 n1 D2c)) (kRS2.put 0 (.slice D2 n1 D2c) #[.slice D2 n1 D2c, .slice none 0 0] rfl) (by decide) 1 (.slice D3 n2 D3c)
          have oD43 : r3.ownsRow w.heap.size 76 3 (.slice D4 n3 D4c) n3 (XS F.xs) := by rw [hr3]; exact own_farT (own_farT (oD42) kRS2 (by decide) 0 (.slice D2 n1 D2c)) (kRS2.put 0 (.slice D2 n1 D2c) #[.slice D2 n1 D2c, .slice none 0 0] rfl) (by decide) 1 (.slice D3 n2 D3c)
          clear hr3
          refine wpAnyH_ready (rs := [5]) (by kernel_rfl) (by simp) ?_
          refine AllReadyH.cons (o := ?oi1206) ?hi1206 (fun K hK => ?br1206) AllReadyH.nil
          case hi1206 => (conv => lhs; simp only [List.getElem?_toArray, List.getElem?_cons_zero, List.getElem?_cons_succ]); try exact rfl
          case br1206 =>
            have x4_0 := kRF3.get (x := .int .i64 0) 0 rfl
            have f4_0 := kRF3.frozen 0
            have x4_1 := kRF3.get (x := .slice none 0 0) 1 rfl
            have f4_1 := kRF3.frozen 1
            have lE4 := kRF3.lt
            have neX4 : w.heap.size ≠ (w.heap.size + 3) := by have := kRF3.lt; have := kX3.lt; first | exact Blk.ne_ kX3 kRF3 (by decide) | omega
            have neY4 : (w.heap.size + 1) ≠ (w.heap.size + 3) := by have := kRF3.lt; have := kY3.lt; first | exact Blk.ne_ kY3 kRF3 (by decide) | omega
            have neRS4 : (w.heap.size + 2) ≠ (w.heap.size + 3) := by have := kRF3.lt; have := kRS3.lt; first | exact Blk.ne_ kRS3 kRF3 (by decide) | omega
            go_simp
            refine hK.out _ _ (by exact ⟨(((kX3).far (p := ⟨(w.heap.size + 3), 0, none⟩) neX4 (.int .i64 sz)).far (p := ⟨(w.heap.size + 3), 1, none⟩) neX4 (.slice D4 n3 D4c)).get 0 rfl, (((kX3).far (p := ⟨(w.heap.size + 3), 0, none⟩) neX4 (.int .i64 sz)).far (p := ⟨(w.heap.size + 3), 1, none⟩) neX4 (.slice D4 n3 D4c)).get 1 rfl, (((kY3).far (p := ⟨(w.heap.size + 3), 0, none⟩) neY4 (.int .i64 sz)).far (p := ⟨(w.heap.size + 3), 1, none⟩) neY4 (.slice D4 n3 D4c)).get 0 rfl, (((kY3).far (p := ⟨(w.heap.size + 3), 0, none⟩) neY4 (.int .i64 sz)).far (p := ⟨(w.heap.size + 3), 1, none⟩) neY4 (.slice D4 n3 D4c)).get 1 rfl⟩) (fun _ => ?_)
            clear hK K x4_0 f4_0 x4_1 f4_1 lE4
            refine foldH ?_
            intro r4 hr4
            have bw4 : Below w.heap.size w r4 := by rw [hr4]; exact belC (belC (bw3) _ 0 (by omega) (.int .i64 sz)) _ 1 (by omega) (.slice D4 n3 D4c)
            have kX4 : Blk r4 w.heap.size 31 #[.slice A1 n1 c1, .slice A2 n2 c2] := by rw [hr4]; exact ((kX3).far (p := ⟨(w.heap.size + 3), 0, none⟩) neX4 (.int .i64 sz)).far (p := ⟨(w.heap.size + 3), 1, none⟩) neX4 (.slice D4 n3 D4c)
            have kY4 : Blk r4 (w.heap.size + 1) 34 #[.int .i64 sz, .slice A3 n3 c3] := by rw [hr4]; exact ((kY3).far (p := ⟨(w.heap.size + 3), 0, none⟩) neY4 (.int .i64 sz)).far (p := ⟨(w.heap.size + 3), 1, none⟩) neY4 (.slice D4 n3 D4c)
            have kRS4 : Blk r4 (w.heap.size + 2) 31 #[.slice D2 n1 D2c, .slice D3 n2 D3c] := by rw [hr4]; exact ((kRS3).far (p := ⟨(w.heap.size + 3), 0, none⟩) neRS4 (.int .i64 sz)).far (p := ⟨(w.heap.size + 3), 1, none⟩) neRS4 (.slice D4 n3 D4c)
            have kRF4 : Blk r4 (w.heap.size + 3) 34 #[.int .i64 sz, .slice D4 n3 D4c] := by rw [hr4]; exact ((kRF3.put 0 (.int .i64 sz) #[.int .i64 sz, .slice none 0 0] rfl).put 1 (.slice D4 n3 D4c) #[.int .i64 sz, .slice D4 n3 D4c] rfl)
            have oD24 : r4.ownsRow w.heap.size 4 1 (.slice D2 n1 D2c) n1 (BS S.bs) := by rw [hr4]; exact own_farT (own_farT (oD23) kRF3 (by decide) 0 (.int .i64 sz)) (kRF3.put 0 (.int .i64 sz) #[.int .i64 sz, .slice none 0 0] rfl) (by decide) 1 (.slice D4 n3 D4c)
            have oD34 : r4.ownsRow w.heap.size 9 1 (.slice D3 n2 D3c) n2 (SS S.ds) := by rw [hr4]; exact own_farT (own_farT (oD33) kRF3 (by decide) 0 (.int .i64 sz)) (kRF3.put 0 (.int .i64 sz) #[.int .i64 sz, .slice none 0 0] rfl) (by decide) 1 (.slice D4 n3 D4c)
            have oD44 : r4.ownsRow w.heap.size 76 3 (.slice D4 n3 D4c) n3 (XS F.xs) := by rw [hr4]; exact own_farT (own_farT (oD43) kRF3 (by decide) 0 (.int .i64 sz)) (kRF3.put 0 (.int .i64 sz) #[.int .i64 sz, .slice none 0 0] rfl) (by decide) 1 (.slice D4 n3 D4c)
            clear hr4
            refine wpAnyH_take (i := 6) (oi := ?oi1207) (v := ?v1207) ?hi1207 ?hs1207 ?hf1207 ?hr1207 ?hQ1207 ?hy1207 ?hS1207 ?hrest1207
            case hi1207 => (conv => lhs; simp only [List.getElem?_toArray, List.getElem?_cons_zero, List.getElem?_cons_succ]); try exact rfl
            case hs1207 => kernel_rfl
            case hf1207 => kernel_rfl
            case hr1207 => kernel_rfl
            case hQ1207 => exact fun _ _ _ h => h
            case hS1207 => exact ⟨(kX4).get 0 rfl, (kX4).get 1 rfl, (kY4).get 0 rfl, (kY4).get 1 rfl⟩
            case hy1207 => refine Or.inl ⟨by rfl, ?_⟩; intro w hSw; (try dsimp only at hSw); go_simp; (try with_reducible rfl)
            simp only [Act.put, List.setIfInBounds_toArray, List.set_cons_zero, List.set_cons_succ]
            refine wpAnyH_done (by kernel_rfl) ?_ _
            have r0f := kRS4.get (x := .slice D2 n1 D2c) 0 rfl
            have r1f := kRS4.get (x := .slice D3 n2 D3c) 1 rfl
            have r2f := kRF4.get (x := .int .i64 sz) 0 rfl
            have r3f := kRF4.get (x := .slice D4 n3 D4c) 1 rfl
            have OO1 := Lib.hid (own_eqn oD24 Hl1.out.symm)
            have OO2 := Lib.hid (own_eqn oD34 Hl2.out.symm)
            have OO3 := Lib.hid (own_eqn oD44 Hl3.out.symm)
            have lF1 := kRS4.lt
            have lF2 := kRF4.lt
            have BE := bw4
            clear kX4 kY4 kRS4 kRF4 oD24 oD34 oD44
            go_wp2
            obtain ⟨rfl, rfl, rfl⟩ := HPe.out
            exact bodyPost_ret (v := .tuple #[.agg #[.slice D2 n1 D2c, .slice D3 n2 D3c], .agg #[.int .i64 sz, .slice D4 n3 D4c], .bool false]) (by simp [results, Try.results6, go_sem, r0f, r1f, r2f, r3f]) rfl (wrPost_of (Hsz.out) OO1.out OO2.out OO3.out BE)
  have hoffb : decide (off < 0) = false := by simpa using hoff
  by_cases hda : 48 < (data.size : Int)
  · have HPe := Lib.hid (show S = S' ∧ F = F' ∧ false = ok by have h := HP.out; unfold writeP at h; rw [if_neg (by omega)] at h; simpa using h)
    have hdab : decide (48 < (data.size : Int)) = true := by simpa using hda
    have hdan : 48 < data.size := by omega
    go_upto_region 2 with fail
    refine wp_region_held_drew (S := fun w' => w'.cell? ⟨w.heap.size, 0, none⟩ = some (.slice A1 n1 c1) ∧ w'.cell? ⟨w.heap.size, 1, none⟩ = some (.slice A2 n2 c2) ∧ w'.cell? ⟨(w.heap.size + 1), 0, none⟩ = some (.int .i64 sz) ∧ w'.cell? ⟨(w.heap.size + 1), 1, none⟩ = some (.slice A3 n3 c3)) (by kernel_rfl) (by exact ⟨(kX.out).get 0 rfl, (kX.out).get 1 rfl, (kY.out).get 0 rfl, (kY.out).get 1 rfl⟩) (fun hHeld => ?_)
    clear hHeld
    refine foldH ?_
    intro r0 hr0
    have bw0 : Below w.heap.size w r0 := by rw [hr0]; exact (BC).drew
    have kX0 : Blk r0 w.heap.size 31 #[.slice A1 n1 c1, .slice A2 n2 c2] := by rw [hr0]; exact kX.out.drew
    have kY0 : Blk r0 (w.heap.size + 1) 34 #[.int .i64 sz, .slice A3 n3 c3] := by rw [hr0]; exact kY.out.drew
    have kRS0 : Blk r0 (w.heap.size + 2) 31 #[.slice none 0 0, .slice none 0 0] := by rw [hr0]; exact kRS.out.drew
    have kRF0 : Blk r0 (w.heap.size + 3) 34 #[.int .i64 0, .slice none 0 0] := by rw [hr0]; exact kRF.out.drew
    clear hr0
    refine wpAnyH_take (i := 0) (oi := ?oi1301) (v := ?v1301) ?hi1301 ?hs1301 ?hf1301 ?hr1301 ?hQ1301 ?hy1301 ?hS1301 ?hrest1301
    case hi1301 => (conv => lhs; simp only [List.getElem?_toArray, List.getElem?_cons_zero]); try exact rfl
    case hs1301 => kernel_rfl
    case hf1301 => kernel_rfl
    case hr1301 => kernel_rfl
    case hQ1301 => exact fun _ _ _ h => h
    case hS1301 => exact ⟨(kX0).get 0 rfl, (kX0).get 1 rfl, (kY0).get 0 rfl, (kY0).get 1 rfl⟩
    case hy1301 => refine Or.inl ⟨by rfl, ?_⟩; intro w hSw; (try dsimp only at hSw); go_simp; (try with_reducible rfl)
    simp only [Act.put, List.setIfInBounds_toArray, List.set_cons_zero, List.set_cons_succ]
    refine wpAnyH_take (i := 2) (oi := ?oi1302) (v := ?v1302) ?hi1302 ?hs1302 ?hf1302 ?hr1302 ?hQ1302 ?hy1302 ?hS1302 ?hrest1302
    case hi1302 => (conv => lhs; simp only [List.getElem?_toArray, List.getElem?_cons_zero, List.getElem?_cons_succ]); try exact rfl
    case hs1302 => kernel_rfl
    case hf1302 => kernel_rfl
    case hr1302 => kernel_rfl
    case hQ1302 => exact fun _ _ _ h => h
    case hS1302 => exact ⟨(kX0).get 0 rfl, (kX0).get 1 rfl, (kY0).get 0 rfl, (kY0).get 1 rfl⟩
    case hy1302 => refine Or.inl ⟨by rfl, ?_⟩; intro w hSw; (try dsimp only at hSw); go_simp; (try with_reducible rfl)
    simp only [Act.put, List.setIfInBounds_toArray, List.set_cons_zero, List.set_cons_succ]
    refine wpAnyH_ready (rs := [1]) (by kernel_rfl) (by simp) ?_
    refine AllReadyH.cons (o := ?oi1303) ?hi1303 (fun K hK => ?br1303) AllReadyH.nil
    case hi1303 => (conv => lhs; simp only [List.getElem?_toArray, List.getElem?_cons_zero, List.getElem?_cons_succ]); try exact rfl
    case br1303 =>
      go_simp
      go_at_call 20
      refine (copyStore_spec _ S HS.out _ (HSto.out _ bw0)).mono ?_
      rintro e r1 ⟨_, rfl, hOS, hb1r⟩
      have bw1 : Below w.heap.size w r1 := bw0.trans (hb1r.mono bw0.size)
      have kX1 : Blk r1 w.heap.size 31 #[.slice A1 n1 c1, .slice A2 n2 c2] := kX0.below hb1r kX0.lt
      have kY1 : Blk r1 (w.heap.size + 1) 34 #[.int .i64 sz, .slice A3 n3 c3] := kY0.below hb1r kY0.lt
      have kRS1 : Blk r1 (w.heap.size + 2) 31 #[.slice none 0 0, .slice none 0 0] := kRS0.below hb1r kRS0.lt
      have kRF1 : Blk r1 (w.heap.size + 3) 34 #[.int .i64 0, .slice none 0 0] := kRF0.below hb1r kRF0.lt
      obtain ⟨_, _, rfl, oa, ob⟩ := hOS
      rw [Hl1.out] at oa
      rw [Hl2.out] at ob
      obtain ⟨D2, D2c, rfl, _, _, _⟩ := own_vals oa
      obtain ⟨D3, D3c, rfl, _, _, _⟩ := own_vals ob
      have oD21 := own_more oa bw0.size
      have oD31 := own_more ob bw0.size
      clear oa ob
      refine hK.out _ _ (by exact ⟨(kX1).get 0 rfl, (kX1).get 1 rfl, (kY1).get 0 rfl, (kY1).get 1 rfl⟩) (fun _ => ?_)
      clear hK K
      refine wpAnyH_ready (rs := [3]) (by kernel_rfl) (by simp) ?_
      refine AllReadyH.cons (o := ?oi1304) ?hi1304 (fun K hK => ?br1304) AllReadyH.nil
      case hi1304 => (conv => lhs; simp only [List.getElem?_toArray, List.getElem?_cons_zero, List.getElem?_cons_succ]); try exact rfl
      case br1304 =>
        go_simp
        go_at_call 21
        refine (copyFil_spec _ F HF.out _ (HFil.out _ bw1)).mono ?_
        rintro e r2 ⟨_, rfl, hOF, hb2r⟩
        have bw2 : Below w.heap.size w r2 := bw1.trans (hb2r.mono bw1.size)
        have kX2 : Blk r2 w.heap.size 31 #[.slice A1 n1 c1, .slice A2 n2 c2] := kX1.below hb2r kX1.lt
        have kY2 : Blk r2 (w.heap.size + 1) 34 #[.int .i64 sz, .slice A3 n3 c3] := kY1.below hb2r kY1.lt
        have kRS2 : Blk r2 (w.heap.size + 2) 31 #[.slice none 0 0, .slice none 0 0] := kRS1.below hb2r kRS1.lt
        have kRF2 : Blk r2 (w.heap.size + 3) 34 #[.int .i64 0, .slice none 0 0] := kRF1.below hb2r kRF1.lt
        have oD22 : r2.ownsRow w.heap.size 4 1 (.slice D2 n1 D2c) n1 (BS S.bs) := own_below oD21 hb2r (Nat.le_refl _)
        have oD32 : r2.ownsRow w.heap.size 9 1 (.slice D3 n2 D3c) n2 (SS S.ds) := own_below oD31 hb2r (Nat.le_refl _)
        obtain ⟨_, rfl, oa⟩ := hOF
        rw [Hl3.out] at oa
        rw [Hsz.out]
        obtain ⟨D4, D4c, rfl, _, _, _⟩ := own_vals oa
        have oD42 := own_more oa bw1.size
        clear oa
        refine hK.out _ _ (by exact ⟨(kX2).get 0 rfl, (kX2).get 1 rfl, (kY2).get 0 rfl, (kY2).get 1 rfl⟩) (fun _ => ?_)
        clear hK K
        refine wpAnyH_ready (rs := [4]) (by kernel_rfl) (by simp) ?_
        refine AllReadyH.cons (o := ?oi1305) ?hi1305 (fun K hK => ?br1305) AllReadyH.nil
        case hi1305 => (conv => lhs; simp only [List.getElem?_toArray, List.getElem?_cons_zero, List.getElem?_cons_succ]); try exact rfl
        case br1305 =>
          have x3_0 := kRS2.get (x := .slice none 0 0) 0 rfl
          have f3_0 := kRS2.frozen 0
          have x3_1 := kRS2.get (x := .slice none 0 0) 1 rfl
          have f3_1 := kRS2.frozen 1
          have lE3 := kRS2.lt
          have neX3 : w.heap.size ≠ (w.heap.size + 2) := by have := kRS2.lt; have := kX2.lt; first | exact Blk.ne_ kX2 kRS2 (by decide) | omega
          have neY3 : (w.heap.size + 1) ≠ (w.heap.size + 2) := by have := kRS2.lt; have := kY2.lt; first | exact Blk.ne_ kY2 kRS2 (by decide) | omega
          have neRF3 : (w.heap.size + 3) ≠ (w.heap.size + 2) := by have := kRS2.lt; have := kRF2.lt; first | exact Blk.ne_ kRF2 kRS2 (by decide) | omega
          go_simp
          refine hK.out _ _ (by exact ⟨(((kX2).far (p := ⟨(w.heap.size + 2), 0, none⟩) neX3 (.slice D2 n1 D2c)).far (p := ⟨(w.heap.size + 2), 1, none⟩) neX3 (.slice D3 n2 D3c)).get 0 rfl, (((kX2).far (p := ⟨(w.heap.size + 2), 0, none⟩) neX3 (.slice D2 n1 D2c)).far (p := ⟨(w.heap.size + 2), 1, none⟩) neX3 (.slice D3 n2 D3c)).get 1 rfl, (((kY2).far (p := ⟨(w.heap.size + 2), 0, none⟩) neY3 (.slice D2 n1 D2c)).far (p := ⟨(w.heap.size + 2), 1, none⟩) neY3 (.slice D3 n2 D3c)).get 0 rfl, (((kY2).far (p := ⟨(w.heap.size + 2), 0, none⟩) neY3 (.slice D2 n1 D2c)).far (p := ⟨(w.heap.size + 2), 1, none⟩) neY3 (.slice D3 n2 D3c)).get 1 rfl⟩) (fun _ => ?_)
          clear hK K x3_0 f3_0 x3_1 f3_1 lE3
          refine foldH ?_
          intro r3 hr3
          have bw3 : Below w.heap.size w r3 := by rw [hr3]; exact belC (belC (bw2) _ 0 (by omega) (.slice D2 n1 D2c)) _ 1 (by omega) (.slice D3 n2 D3c)
          have kX3 : Blk r3 w.heap.size 31 #[.slice A1 n1 c1, .slice A2 n2 c2] := by rw [hr3]; exact ((kX2).far (p := ⟨(w.heap.size + 2), 0, none⟩) neX3 (.slice D2 n1 D2c)).far (p := ⟨(w.heap.size + 2), 1, none⟩) neX3 (.slice D3 n2 D3c)
          have kY3 : Blk r3 (w.heap.size + 1) 34 #[.int .i64 sz, .slice A3 n3 c3] := by rw [hr3]; exact ((kY2).far (p := ⟨(w.heap.size + 2), 0, none⟩) neY3 (.slice D2 n1 D2c)).far (p := ⟨(w.heap.size + 2), 1, none⟩) neY3 (.slice D3 n2 D3c)
          have kRS3 : Blk r3 (w.heap.size + 2) 31 #[.slice D2 n1 D2c, .slice D3 n2 D3c] := by rw [hr3]; exact ((kRS2.put 0 (.slice D2 n1 D2c) #[.slice D2 n1 D2c, .slice none 0 0] rfl).put 1 (.slice D3 n2 D3c) #[.slice D2 n1 D2c, .slice D3 n2 D3c] rfl)
          have kRF3 : Blk r3 (w.heap.size + 3) 34 #[.int .i64 0, .slice none 0 0] := by rw [hr3]; exact ((kRF2).far (p := ⟨(w.heap.size + 2), 0, none⟩) neRF3 (.slice D2 n1 D2c)).far (p := ⟨(w.heap.size + 2), 1, none⟩) neRF3 (.slice D3 n2 D3c)
          have oD23 : r3.ownsRow w.heap.size 4 1 (.slice D2 n1 D2c) n1 (BS S.bs) := by rw [hr3]; exact own_farT (own_farT (oD22) kRS2 (by decide) 0 (.slice D2 n1 D2c)) (kRS2.put 0 (.slice D2 n1 D2c) #[.slice D2 n1 D2c, .slice none 0 0] rfl) (by decide) 1 (.slice D3 n2 D3c)
          have oD33 : r3.ownsRow w.heap.size 9 1 (.slice D3 n2 D3c) n2 (SS S.ds) := by rw [hr3]; exact own_farT (own_farT (oD32) kRS2 (by decide) 0 (.slice D2 n1 D2c)) (kRS2.put 0 (.slice D2 n1 D2c) #[.slice D2 n1 D2c, .slice none 0 0] rfl) (by decide) 1 (.slice D3 n2 D3c)
          have oD43 : r3.ownsRow w.heap.size 76 3 (.slice D4 n3 D4c) n3 (XS F.xs) := by rw [hr3]; exact own_farT (own_farT (oD42) kRS2 (by decide) 0 (.slice D2 n1 D2c)) (kRS2.put 0 (.slice D2 n1 D2c) #[.slice D2 n1 D2c, .slice none 0 0] rfl) (by decide) 1 (.slice D3 n2 D3c)
          clear hr3
          refine wpAnyH_ready (rs := [5]) (by kernel_rfl) (by simp) ?_
          refine AllReadyH.cons (o := ?oi1306) ?hi1306 (fun K hK => ?br1306) AllReadyH.nil
          case hi1306 => (conv => lhs; simp only [List.getElem?_toArray, List.getElem?_cons_zero, List.getElem?_cons_succ]); try exact rfl
          case br1306 =>
            have x4_0 := kRF3.get (x := .int .i64 0) 0 rfl
            have f4_0 := kRF3.frozen 0
            have x4_1 := kRF3.get (x := .slice none 0 0) 1 rfl
            have f4_1 := kRF3.frozen 1
            have lE4 := kRF3.lt
            have neX4 : w.heap.size ≠ (w.heap.size + 3) := by have := kRF3.lt; have := kX3.lt; first | exact Blk.ne_ kX3 kRF3 (by decide) | omega
            have neY4 : (w.heap.size + 1) ≠ (w.heap.size + 3) := by have := kRF3.lt; have := kY3.lt; first | exact Blk.ne_ kY3 kRF3 (by decide) | omega
            have neRS4 : (w.heap.size + 2) ≠ (w.heap.size + 3) := by have := kRF3.lt; have := kRS3.lt; first | exact Blk.ne_ kRS3 kRF3 (by decide) | omega
            go_simp
            refine hK.out _ _ (by exact ⟨(((kX3).far (p := ⟨(w.heap.size + 3), 0, none⟩) neX4 (.int .i64 sz)).far (p := ⟨(w.heap.size + 3), 1, none⟩) neX4 (.slice D4 n3 D4c)).get 0 rfl, (((kX3).far (p := ⟨(w.heap.size + 3), 0, none⟩) neX4 (.int .i64 sz)).far (p := ⟨(w.heap.size + 3), 1, none⟩) neX4 (.slice D4 n3 D4c)).get 1 rfl, (((kY3).far (p := ⟨(w.heap.size + 3), 0, none⟩) neY4 (.int .i64 sz)).far (p := ⟨(w.heap.size + 3), 1, none⟩) neY4 (.slice D4 n3 D4c)).get 0 rfl, (((kY3).far (p := ⟨(w.heap.size + 3), 0, none⟩) neY4 (.int .i64 sz)).far (p := ⟨(w.heap.size + 3), 1, none⟩) neY4 (.slice D4 n3 D4c)).get 1 rfl⟩) (fun _ => ?_)
            clear hK K x4_0 f4_0 x4_1 f4_1 lE4
            refine foldH ?_
            intro r4 hr4
            have bw4 : Below w.heap.size w r4 := by rw [hr4]; exact belC (belC (bw3) _ 0 (by omega) (.int .i64 sz)) _ 1 (by omega) (.slice D4 n3 D4c)
            have kX4 : Blk r4 w.heap.size 31 #[.slice A1 n1 c1, .slice A2 n2 c2] := by rw [hr4]; exact ((kX3).far (p := ⟨(w.heap.size + 3), 0, none⟩) neX4 (.int .i64 sz)).far (p := ⟨(w.heap.size + 3), 1, none⟩) neX4 (.slice D4 n3 D4c)
            have kY4 : Blk r4 (w.heap.size + 1) 34 #[.int .i64 sz, .slice A3 n3 c3] := by rw [hr4]; exact ((kY3).far (p := ⟨(w.heap.size + 3), 0, none⟩) neY4 (.int .i64 sz)).far (p := ⟨(w.heap.size + 3), 1, none⟩) neY4 (.slice D4 n3 D4c)
            have kRS4 : Blk r4 (w.heap.size + 2) 31 #[.slice D2 n1 D2c, .slice D3 n2 D3c] := by rw [hr4]; exact ((kRS3).far (p := ⟨(w.heap.size + 3), 0, none⟩) neRS4 (.int .i64 sz)).far (p := ⟨(w.heap.size + 3), 1, none⟩) neRS4 (.slice D4 n3 D4c)
            have kRF4 : Blk r4 (w.heap.size + 3) 34 #[.int .i64 sz, .slice D4 n3 D4c] := by rw [hr4]; exact ((kRF3.put 0 (.int .i64 sz) #[.int .i64 sz, .slice none 0 0] rfl).put 1 (.slice D4 n3 D4c) #[.int .i64 sz, .slice D4 n3 D4c] rfl)
            have oD24 : r4.ownsRow w.heap.size 4 1 (.slice D2 n1 D2c) n1 (BS S.bs) := by rw [hr4]; exact own_farT (own_farT (oD23) kRF3 (by decide) 0 (.int .i64 sz)) (kRF3.put 0 (.int .i64 sz) #[.int .i64 sz, .slice none 0 0] rfl) (by decide) 1 (.slice D4 n3 D4c)
            have oD34 : r4.ownsRow w.heap.size 9 1 (.slice D3 n2 D3c) n2 (SS S.ds) := by rw [hr4]; exact own_farT (own_farT (oD33) kRF3 (by decide) 0 (.int .i64 sz)) (kRF3.put 0 (.int .i64 sz) #[.int .i64 sz, .slice none 0 0] rfl) (by decide) 1 (.slice D4 n3 D4c)
            have oD44 : r4.ownsRow w.heap.size 76 3 (.slice D4 n3 D4c) n3 (XS F.xs) := by rw [hr4]; exact own_farT (own_farT (oD43) kRF3 (by decide) 0 (.int .i64 sz)) (kRF3.put 0 (.int .i64 sz) #[.int .i64 sz, .slice none 0 0] rfl) (by decide) 1 (.slice D4 n3 D4c)
            clear hr4
            refine wpAnyH_take (i := 6) (oi := ?oi1307) (v := ?v1307) ?hi1307 ?hs1307 ?hf1307 ?hr1307 ?hQ1307 ?hy1307 ?hS1307 ?hrest1307
            case hi1307 => (conv => lhs; simp only [List.getElem?_toArray, List.getElem?_cons_zero, List.getElem?_cons_succ]); try exact rfl
            case hs1307 => kernel_rfl
            case hf1307 => kernel_rfl
            case hr1307 => kernel_rfl
            case hQ1307 => exact fun _ _ _ h => h
            case hS1307 => exact ⟨(kX4).get 0 rfl, (kX4).get 1 rfl, (kY4).get 0 rfl, (kY4).get 1 rfl⟩
            case hy1307 => refine Or.inl ⟨by rfl, ?_⟩; intro w hSw; (try dsimp only at hSw); go_simp; (try with_reducible rfl)
            simp only [Act.put, List.setIfInBounds_toArray, List.set_cons_zero, List.set_cons_succ]
            refine wpAnyH_done (by kernel_rfl) ?_ _
            have r0f := kRS4.get (x := .slice D2 n1 D2c) 0 rfl
            have r1f := kRS4.get (x := .slice D3 n2 D3c) 1 rfl
            have r2f := kRF4.get (x := .int .i64 sz) 0 rfl
            have r3f := kRF4.get (x := .slice D4 n3 D4c) 1 rfl
            have OO1 := Lib.hid (own_eqn oD24 Hl1.out.symm)
            have OO2 := Lib.hid (own_eqn oD34 Hl2.out.symm)
            have OO3 := Lib.hid (own_eqn oD44 Hl3.out.symm)
            have lF1 := kRS4.lt
            have lF2 := kRF4.lt
            have BE := bw4
            clear kX4 kY4 kRS4 kRF4 oD24 oD34 oD44
            go_wp2
            obtain ⟨rfl, rfl, rfl⟩ := HPe.out
            exact bodyPost_ret (v := .tuple #[.agg #[.slice D2 n1 D2c, .slice D3 n2 D3c], .agg #[.int .i64 sz, .slice D4 n3 D4c], .bool false]) (by simp [results, Try.results6, go_sem, r0f, r1f, r2f, r3f]) rfl (wrPost_of (Hsz.out) OO1.out OO2.out OO3.out BE)
  have hdab : decide (48 < (data.size : Int)) = false := by simpa using hda
  have hdan : ¬ 48 < data.size := by omega
  by_cases hof2 : 48 - (data.size : Int) < off
  · have HPe := Lib.hid (show S = S' ∧ F = F' ∧ false = ok by have h := HP.out; unfold writeP at h; rw [if_neg (by omega)] at h; simpa using h)
    have hof2b : decide (48 - (data.size : Int) < off) = true := by simpa using hof2
    go_upto_region 2 with fail
    refine wp_region_held_drew (S := fun w' => w'.cell? ⟨w.heap.size, 0, none⟩ = some (.slice A1 n1 c1) ∧ w'.cell? ⟨w.heap.size, 1, none⟩ = some (.slice A2 n2 c2) ∧ w'.cell? ⟨(w.heap.size + 1), 0, none⟩ = some (.int .i64 sz) ∧ w'.cell? ⟨(w.heap.size + 1), 1, none⟩ = some (.slice A3 n3 c3)) (by kernel_rfl) (by exact ⟨(kX.out).get 0 rfl, (kX.out).get 1 rfl, (kY.out).get 0 rfl, (kY.out).get 1 rfl⟩) (fun hHeld => ?_)
    clear hHeld
    refine foldH ?_
    intro r0 hr0
    have bw0 : Below w.heap.size w r0 := by rw [hr0]; exact (BC).drew
    have kX0 : Blk r0 w.heap.size 31 #[.slice A1 n1 c1, .slice A2 n2 c2] := by rw [hr0]; exact kX.out.drew
    have kY0 : Blk r0 (w.heap.size + 1) 34 #[.int .i64 sz, .slice A3 n3 c3] := by rw [hr0]; exact kY.out.drew
    have kRS0 : Blk r0 (w.heap.size + 2) 31 #[.slice none 0 0, .slice none 0 0] := by rw [hr0]; exact kRS.out.drew
    have kRF0 : Blk r0 (w.heap.size + 3) 34 #[.int .i64 0, .slice none 0 0] := by rw [hr0]; exact kRF.out.drew
    clear hr0
    refine wpAnyH_take (i := 0) (oi := ?oi1401) (v := ?v1401) ?hi1401 ?hs1401 ?hf1401 ?hr1401 ?hQ1401 ?hy1401 ?hS1401 ?hrest1401
    case hi1401 => (conv => lhs; simp only [List.getElem?_toArray, List.getElem?_cons_zero]); try exact rfl
    case hs1401 => kernel_rfl
    case hf1401 => kernel_rfl
    case hr1401 => kernel_rfl
    case hQ1401 => exact fun _ _ _ h => h
    case hS1401 => exact ⟨(kX0).get 0 rfl, (kX0).get 1 rfl, (kY0).get 0 rfl, (kY0).get 1 rfl⟩
    case hy1401 => refine Or.inl ⟨by rfl, ?_⟩; intro w hSw; (try dsimp only at hSw); go_simp; (try with_reducible rfl)
    simp only [Act.put, List.setIfInBounds_toArray, List.set_cons_zero, List.set_cons_succ]
    refine wpAnyH_take (i := 2) (oi := ?oi1402) (v := ?v1402) ?hi1402 ?hs1402 ?hf1402 ?hr1402 ?hQ1402 ?hy1402 ?hS1402 ?hrest1402
    case hi1402 => (conv => lhs; simp only [List.getElem?_toArray, List.getElem?_cons_zero, List.getElem?_cons_succ]); try exact rfl
    case hs1402 => kernel_rfl
    case hf1402 => kernel_rfl
    case hr1402 => kernel_rfl
    case hQ1402 => exact fun _ _ _ h => h
    case hS1402 => exact ⟨(kX0).get 0 rfl, (kX0).get 1 rfl, (kY0).get 0 rfl, (kY0).get 1 rfl⟩
    case hy1402 => refine Or.inl ⟨by rfl, ?_⟩; intro w hSw; (try dsimp only at hSw); go_simp; (try with_reducible rfl)
    simp only [Act.put, List.setIfInBounds_toArray, List.set_cons_zero, List.set_cons_succ]
    refine wpAnyH_ready (rs := [1]) (by kernel_rfl) (by simp) ?_
    refine AllReadyH.cons (o := ?oi1403) ?hi1403 (fun K hK => ?br1403) AllReadyH.nil
    case hi1403 => (conv => lhs; simp only [List.getElem?_toArray, List.getElem?_cons_zero, List.getElem?_cons_succ]); try exact rfl
    case br1403 =>
      go_simp
      go_at_call 20
      refine (copyStore_spec _ S HS.out _ (HSto.out _ bw0)).mono ?_
      rintro e r1 ⟨_, rfl, hOS, hb1r⟩
      have bw1 : Below w.heap.size w r1 := bw0.trans (hb1r.mono bw0.size)
      have kX1 : Blk r1 w.heap.size 31 #[.slice A1 n1 c1, .slice A2 n2 c2] := kX0.below hb1r kX0.lt
      have kY1 : Blk r1 (w.heap.size + 1) 34 #[.int .i64 sz, .slice A3 n3 c3] := kY0.below hb1r kY0.lt
      have kRS1 : Blk r1 (w.heap.size + 2) 31 #[.slice none 0 0, .slice none 0 0] := kRS0.below hb1r kRS0.lt
      have kRF1 : Blk r1 (w.heap.size + 3) 34 #[.int .i64 0, .slice none 0 0] := kRF0.below hb1r kRF0.lt
      obtain ⟨_, _, rfl, oa, ob⟩ := hOS
      rw [Hl1.out] at oa
      rw [Hl2.out] at ob
      obtain ⟨D2, D2c, rfl, _, _, _⟩ := own_vals oa
      obtain ⟨D3, D3c, rfl, _, _, _⟩ := own_vals ob
      have oD21 := own_more oa bw0.size
      have oD31 := own_more ob bw0.size
      clear oa ob
      refine hK.out _ _ (by exact ⟨(kX1).get 0 rfl, (kX1).get 1 rfl, (kY1).get 0 rfl, (kY1).get 1 rfl⟩) (fun _ => ?_)
      clear hK K
      refine wpAnyH_ready (rs := [3]) (by kernel_rfl) (by simp) ?_
      refine AllReadyH.cons (o := ?oi1404) ?hi1404 (fun K hK => ?br1404) AllReadyH.nil
      case hi1404 => (conv => lhs; simp only [List.getElem?_toArray, List.getElem?_cons_zero, List.getElem?_cons_succ]); try exact rfl
      case br1404 =>
        go_simp
        go_at_call 21
        refine (copyFil_spec _ F HF.out _ (HFil.out _ bw1)).mono ?_
        rintro e r2 ⟨_, rfl, hOF, hb2r⟩
        have bw2 : Below w.heap.size w r2 := bw1.trans (hb2r.mono bw1.size)
        have kX2 : Blk r2 w.heap.size 31 #[.slice A1 n1 c1, .slice A2 n2 c2] := kX1.below hb2r kX1.lt
        have kY2 : Blk r2 (w.heap.size + 1) 34 #[.int .i64 sz, .slice A3 n3 c3] := kY1.below hb2r kY1.lt
        have kRS2 : Blk r2 (w.heap.size + 2) 31 #[.slice none 0 0, .slice none 0 0] := kRS1.below hb2r kRS1.lt
        have kRF2 : Blk r2 (w.heap.size + 3) 34 #[.int .i64 0, .slice none 0 0] := kRF1.below hb2r kRF1.lt
        have oD22 : r2.ownsRow w.heap.size 4 1 (.slice D2 n1 D2c) n1 (BS S.bs) := own_below oD21 hb2r (Nat.le_refl _)
        have oD32 : r2.ownsRow w.heap.size 9 1 (.slice D3 n2 D3c) n2 (SS S.ds) := own_below oD31 hb2r (Nat.le_refl _)
        obtain ⟨_, rfl, oa⟩ := hOF
        rw [Hl3.out] at oa
        rw [Hsz.out]
        obtain ⟨D4, D4c, rfl, _, _, _⟩ := own_vals oa
        have oD42 := own_more oa bw1.size
        clear oa
        refine hK.out _ _ (by exact ⟨(kX2).get 0 rfl, (kX2).get 1 rfl, (kY2).get 0 rfl, (kY2).get 1 rfl⟩) (fun _ => ?_)
        clear hK K
        refine wpAnyH_ready (rs := [4]) (by kernel_rfl) (by simp) ?_
        refine AllReadyH.cons (o := ?oi1405) ?hi1405 (fun K hK => ?br1405) AllReadyH.nil
        case hi1405 => (conv => lhs; simp only [List.getElem?_toArray, List.getElem?_cons_zero, List.getElem?_cons_succ]); try exact rfl
        case br1405 =>
          have x3_0 := kRS2.get (x := .slice none 0 0) 0 rfl
          have f3_0 := kRS2.frozen 0
          have x3_1 := kRS2.get (x := .slice none 0 0) 1 rfl
          have f3_1 := kRS2.frozen 1
          have lE3 := kRS2.lt
          have neX3 : w.heap.size ≠ (w.heap.size + 2) := by have := kRS2.lt; have := kX2.lt; first | exact Blk.ne_ kX2 kRS2 (by decide) | omega
          have neY3 : (w.heap.size + 1) ≠ (w.heap.size + 2) := by have := kRS2.lt; have := kY2.lt; first | exact Blk.ne_ kY2 kRS2 (by decide) | omega
          have neRF3 : (w.heap.size + 3) ≠ (w.heap.size + 2) := by have := kRS2.lt; have := kRF2.lt; first | exact Blk.ne_ kRF2 kRS2 (by decide) | omega
          go_simp
          refine hK.out _ _ (by exact ⟨(((kX2).far (p := ⟨(w.heap.size + 2), 0, none⟩) neX3 (.slice D2 n1 D2c)).far (p := ⟨(w.heap.size + 2), 1, none⟩) neX3 (.slice D3 n2 D3c)).get 0 rfl, (((kX2).far (p := ⟨(w.heap.size + 2), 0, none⟩) neX3 (.slice D2 n1 D2c)).far (p := ⟨(w.heap.size + 2), 1, none⟩) neX3 (.slice D3 n2 D3c)).get 1 rfl, (((kY2).far (p := ⟨(w.heap.size + 2), 0, none⟩) neY3 (.slice D2 n1 D2c)).far (p := ⟨(w.heap.size + 2), 1, none⟩) neY3 (.slice D3 n2 D3c)).get 0 rfl, (((kY2).far (p := ⟨(w.heap.size + 2), 0, none⟩) neY3 (.slice D2 n1 D2c)).far (p := ⟨(w.heap.size + 2), 1, none⟩) neY3 (.slice D3 n2 D3c)).get 1 rfl⟩) (fun _ => ?_)
          clear hK K x3_0 f3_0 x3_1 f3_1 lE3
          refine foldH ?_
          intro r3 hr3
          have bw3 : Below w.heap.size w r3 := by rw [hr3]; exact belC (belC (bw2) _ 0 (by omega) (.slice D2 n1 D2c)) _ 1 (by omega) (.slice D3 n2 D3c)
          have kX3 : Blk r3 w.heap.size 31 #[.slice A1 n1 c1, .slice A2 n2 c2] := by rw [hr3]; exact ((kX2).far (p := ⟨(w.heap.size + 2), 0, none⟩) neX3 (.slice D2 n1 D2c)).far (p := ⟨(w.heap.size + 2), 1, none⟩) neX3 (.slice D3 n2 D3c)
          have kY3 : Blk r3 (w.heap.size + 1) 34 #[.int .i64 sz, .slice A3 n3 c3] := by rw [hr3]; exact ((kY2).far (p := ⟨(w.heap.size + 2), 0, none⟩) neY3 (.slice D2 n1 D2c)).far (p := ⟨(w.heap.size + 2), 1, none⟩) neY3 (.slice D3 n2 D3c)
          have kRS3 : Blk r3 (w.heap.size + 2) 31 #[.slice D2 n1 D2c, .slice D3 n2 D3c] := by rw [hr3]; exact ((kRS2.put 0 (.slice D2 n1 D2c) #[.slice D2 n1 D2c, .slice none 0 0] rfl).put 1 (.slice D3 n2 D3c) #[.slice D2 n1 D2c, .slice D3 n2 D3c] rfl)
          have kRF3 : Blk r3 (w.heap.size + 3) 34 #[.int .i64 0, .slice none 0 0] := by rw [hr3]; exact ((kRF2).far (p := ⟨(w.heap.size + 2), 0, none⟩) neRF3 (.slice D2 n1 D2c)).far (p := ⟨(w.heap.size + 2), 1, none⟩) neRF3 (.slice D3 n2 D3c)
          have oD23 : r3.ownsRow w.heap.size 4 1 (.slice D2 n1 D2c) n1 (BS S.bs) := by rw [hr3]; exact own_farT (own_farT (oD22) kRS2 (by decide) 0 (.slice D2 n1 D2c)) (kRS2.put 0 (.slice D2 n1 D2c) #[.slice D2 n1 D2c, .slice none 0 0] rfl) (by decide) 1 (.slice D3 n2 D3c)
          have oD33 : r3.ownsRow w.heap.size 9 1 (.slice D3 n2 D3c) n2 (SS S.ds) := by rw [hr3]; exact own_farT (own_farT (oD32) kRS2 (by decide) 0 (.slice D2 n1 D2c)) (kRS2.put 0 (.slice D2 n1 D2c) #[.slice D2 n1 D2c, .slice none 0 0] rfl) (by decide) 1 (.slice D3 n2 D3c)
          have oD43 : r3.ownsRow w.heap.size 76 3 (.slice D4 n3 D4c) n3 (XS F.xs) := by rw [hr3]; exact own_farT (own_farT (oD42) kRS2 (by decide) 0 (.slice D2 n1 D2c)) (kRS2.put 0 (.slice D2 n1 D2c) #[.slice D2 n1 D2c, .slice none 0 0] rfl) (by decide) 1 (.slice D3 n2 D3c)
          clear hr3
          refine wpAnyH_ready (rs := [5]) (by kernel_rfl) (by simp) ?_
          refine AllReadyH.cons (o := ?oi1406) ?hi1406 (fun K hK => ?br1406) AllReadyH.nil
          case hi1406 => (conv => lhs; simp only [List.getElem?_toArray, List.getElem?_cons_zero, List.getElem?_cons_succ]); try exact rfl
          case br1406 =>
            have x4_0 := kRF3.get (x := .int .i64 0) 0 rfl
            have f4_0 := kRF3.frozen 0
            have x4_1 := kRF3.get (x := .slice none 0 0) 1 rfl
            have f4_1 := kRF3.frozen 1
            have lE4 := kRF3.lt
            have neX4 : w.heap.size ≠ (w.heap.size + 3) := by have := kRF3.lt; have := kX3.lt; first | exact Blk.ne_ kX3 kRF3 (by decide) | omega
            have neY4 : (w.heap.size + 1) ≠ (w.heap.size + 3) := by have := kRF3.lt; have := kY3.lt; first | exact Blk.ne_ kY3 kRF3 (by decide) | omega
            have neRS4 : (w.heap.size + 2) ≠ (w.heap.size + 3) := by have := kRF3.lt; have := kRS3.lt; first | exact Blk.ne_ kRS3 kRF3 (by decide) | omega
            go_simp
            refine hK.out _ _ (by exact ⟨(((kX3).far (p := ⟨(w.heap.size + 3), 0, none⟩) neX4 (.int .i64 sz)).far (p := ⟨(w.heap.size + 3), 1, none⟩) neX4 (.slice D4 n3 D4c)).get 0 rfl, (((kX3).far (p := ⟨(w.heap.size + 3), 0, none⟩) neX4 (.int .i64 sz)).far (p := ⟨(w.heap.size + 3), 1, none⟩) neX4 (.slice D4 n3 D4c)).get 1 rfl, (((kY3).far (p := ⟨(w.heap.size + 3), 0, none⟩) neY4 (.int .i64 sz)).far (p := ⟨(w.heap.size + 3), 1, none⟩) neY4 (.slice D4 n3 D4c)).get 0 rfl, (((kY3).far (p := ⟨(w.heap.size + 3), 0, none⟩) neY4 (.int .i64 sz)).far (p := ⟨(w.heap.size + 3), 1, none⟩) neY4 (.slice D4 n3 D4c)).get 1 rfl⟩) (fun _ => ?_)
            clear hK K x4_0 f4_0 x4_1 f4_1 lE4
            refine foldH ?_
            intro r4 hr4
            have bw4 : Below w.heap.size w r4 := by rw [hr4]; exact belC (belC (bw3) _ 0 (by omega) (.int .i64 sz)) _ 1 (by omega) (.slice D4 n3 D4c)
            have kX4 : Blk r4 w.heap.size 31 #[.slice A1 n1 c1, .slice A2 n2 c2] := by rw [hr4]; exact ((kX3).far (p := ⟨(w.heap.size + 3), 0, none⟩) neX4 (.int .i64 sz)).far (p := ⟨(w.heap.size + 3), 1, none⟩) neX4 (.slice D4 n3 D4c)
            have kY4 : Blk r4 (w.heap.size + 1) 34 #[.int .i64 sz, .slice A3 n3 c3] := by rw [hr4]; exact ((kY3).far (p := ⟨(w.heap.size + 3), 0, none⟩) neY4 (.int .i64 sz)).far (p := ⟨(w.heap.size + 3), 1, none⟩) neY4 (.slice D4 n3 D4c)
            have kRS4 : Blk r4 (w.heap.size + 2) 31 #[.slice D2 n1 D2c, .slice D3 n2 D3c] := by rw [hr4]; exact ((kRS3).far (p := ⟨(w.heap.size + 3), 0, none⟩) neRS4 (.int .i64 sz)).far (p := ⟨(w.heap.size + 3), 1, none⟩) neRS4 (.slice D4 n3 D4c)
            have kRF4 : Blk r4 (w.heap.size + 3) 34 #[.int .i64 sz, .slice D4 n3 D4c] := by rw [hr4]; exact ((kRF3.put 0 (.int .i64 sz) #[.int .i64 sz, .slice none 0 0] rfl).put 1 (.slice D4 n3 D4c) #[.int .i64 sz, .slice D4 n3 D4c] rfl)
            have oD24 : r4.ownsRow w.heap.size 4 1 (.slice D2 n1 D2c) n1 (BS S.bs) := by rw [hr4]; exact own_farT (own_farT (oD23) kRF3 (by decide) 0 (.int .i64 sz)) (kRF3.put 0 (.int .i64 sz) #[.int .i64 sz, .slice none 0 0] rfl) (by decide) 1 (.slice D4 n3 D4c)
            have oD34 : r4.ownsRow w.heap.size 9 1 (.slice D3 n2 D3c) n2 (SS S.ds) := by rw [hr4]; exact own_farT (own_farT (oD33) kRF3 (by decide) 0 (.int .i64 sz)) (kRF3.put 0 (.int .i64 sz) #[.int .i64 sz, .slice none 0 0] rfl) (by decide) 1 (.slice D4 n3 D4c)
            have oD44 : r4.ownsRow w.heap.size 76 3 (.slice D4 n3 D4c) n3 (XS F.xs) := by rw [hr4]; exact own_farT (own_farT (oD43) kRF3 (by decide) 0 (.int .i64 sz)) (kRF3.put 0 (.int .i64 sz) #[.int .i64 sz, .slice none 0 0] rfl) (by decide) 1 (.slice D4 n3 D4c)
            clear hr4
            refine wpAnyH_take (i := 6) (oi := ?oi1407) (v := ?v1407) ?hi1407 ?hs1407 ?hf1407 ?hr1407 ?hQ1407 ?hy1407 ?hS1407 ?hrest1407
            case hi1407 => (conv => lhs; simp only [List.getElem?_toArray, List.getElem?_cons_zero, List.getElem?_cons_succ]); try exact rfl
            case hs1407 => kernel_rfl
            case hf1407 => kernel_rfl
            case hr1407 => kernel_rfl
            case hQ1407 => exact fun _ _ _ h => h
            case hS1407 => exact ⟨(kX4).get 0 rfl, (kX4).get 1 rfl, (kY4).get 0 rfl, (kY4).get 1 rfl⟩
            case hy1407 => refine Or.inl ⟨by rfl, ?_⟩; intro w hSw; (try dsimp only at hSw); go_simp; (try with_reducible rfl)
            simp only [Act.put, List.setIfInBounds_toArray, List.set_cons_zero, List.set_cons_succ]
            refine wpAnyH_done (by kernel_rfl) ?_ _
            have r0f := kRS4.get (x := .slice D2 n1 D2c) 0 rfl
            have r1f := kRS4.get (x := .slice D3 n2 D3c) 1 rfl
            have r2f := kRF4.get (x := .int .i64 sz) 0 rfl
            have r3f := kRF4.get (x := .slice D4 n3 D4c) 1 rfl
            have OO1 := Lib.hid (own_eqn oD24 Hl1.out.symm)
            have OO2 := Lib.hid (own_eqn oD34 Hl2.out.symm)
            have OO3 := Lib.hid (own_eqn oD44 Hl3.out.symm)
            have lF1 := kRS4.lt
            have lF2 := kRF4.lt
            have BE := bw4
            clear kX4 kY4 kRS4 kRF4 oD24 oD34 oD44
            go_wp2
            obtain ⟨rfl, rfl, rfl⟩ := HPe.out
            exact bodyPost_ret (v := .tuple #[.agg #[.slice D2 n1 D2c, .slice D3 n2 D3c], .agg #[.int .i64 sz, .slice D4 n3 D4c], .bool false]) (by simp [results, Try.results6, go_sem, r0f, r1f, r2f, r3f]) rfl (wrPost_of (Hsz.out) OO1.out OO2.out OO3.out BE)
  have hof2b : decide (48 - (data.size : Int) < off) = false := by simpa using hof2
  by_cases hem : data.size = 0
  · have HPe := Lib.hid (show S = S' ∧ F = F' ∧ true = ok by have h := HP.out; unfold writeP at h; rw [if_pos ⟨hok, by omega, by omega⟩, if_pos hem] at h; simpa using h)
    obtain ⟨em1, em2, em3⟩ := empty_tests hem
    go_upto_region 4 with fail
    refine wp_region_held_drew (S := fun w' => w'.cell? ⟨w.heap.size, 0, none⟩ = some (.slice A1 n1 c1) ∧ w'.cell? ⟨w.heap.size, 1, none⟩ = some (.slice A2 n2 c2) ∧ w'.cell? ⟨(w.heap.size + 1), 0, none⟩ = some (.int .i64 sz) ∧ w'.cell? ⟨(w.heap.size + 1), 1, none⟩ = some (.slice A3 n3 c3)) (by kernel_rfl) (by exact ⟨(kX.out).get 0 rfl, (kX.out).get 1 rfl, (kY.out).get 0 rfl, (kY.out).get 1 rfl⟩) (fun hHeld => ?_)
    clear hHeld
    refine foldH ?_
    intro r0 hr0
    have bw0 : Below w.heap.size w r0 := by rw [hr0]; exact (BC).drew
    have kX0 : Blk r0 w.heap.size 31 #[.slice A1 n1 c1, .slice A2 n2 c2] := by rw [hr0]; exact kX.out.drew
    have kY0 : Blk r0 (w.heap.size + 1) 34 #[.int .i64 sz, .slice A3 n3 c3] := by rw [hr0]; exact kY.out.drew
    have kRS0 : Blk r0 (w.heap.size + 2) 31 #[.slice none 0 0, .slice none 0 0] := by rw [hr0]; exact kRS.out.drew
    have kRF0 : Blk r0 (w.heap.size + 3) 34 #[.int .i64 0, .slice none 0 0] := by rw [hr0]; exact kRF.out.drew
    clear hr0
    refine wpAnyH_take (i := 0) (oi := ?oi1501) (v := ?v1501) ?hi1501 ?hs1501 ?hf1501 ?hr1501 ?hQ1501 ?hy1501 ?hS1501 ?hrest1501
    case hi1501 => (conv => lhs; simp only [List.getElem?_toArray, List.getElem?_cons_zero]); try exact rfl
    case hs1501 => kernel_rfl
    case hf1501 => kernel_rfl
    case hr1501 => kernel_rfl
    case hQ1501 => exact fun _ _ _ h => h
    case hS1501 => exact ⟨(kX0).get 0 rfl, (kX0).get 1 rfl, (kY0).get 0 rfl, (kY0).get 1 rfl⟩
    case hy1501 => refine Or.inl ⟨by rfl, ?_⟩; intro w hSw; (try dsimp only at hSw); go_simp; (try with_reducible rfl)
    simp only [Act.put, List.setIfInBounds_toArray, List.set_cons_zero, List.set_cons_succ]
    refine wpAnyH_take (i := 2) (oi := ?oi1502) (v := ?v1502) ?hi1502 ?hs1502 ?hf1502 ?hr1502 ?hQ1502 ?hy1502 ?hS1502 ?hrest1502
    case hi1502 => (conv => lhs; simp only [List.getElem?_toArray, List.getElem?_cons_zero, List.getElem?_cons_succ]); try exact rfl
    case hs1502 => kernel_rfl
    case hf1502 => kernel_rfl
    case hr1502 => kernel_rfl
    case hQ1502 => exact fun _ _ _ h => h
    case hS1502 => exact ⟨(kX0).get 0 rfl, (kX0).get 1 rfl, (kY0).get 0 rfl, (kY0).get 1 rfl⟩
    case hy1502 => refine Or.inl ⟨by rfl, ?_⟩; intro w hSw; (try dsimp only at hSw); go_simp; (try with_reducible rfl)
    simp only [Act.put, List.setIfInBounds_toArray, List.set_cons_zero, List.set_cons_succ]
    refine wpAnyH_ready (rs := [1]) (by kernel_rfl) (by simp) ?_
    refine AllReadyH.cons (o := ?oi1503) ?hi1503 (fun K hK => ?br1503) AllReadyH.nil
    case hi1503 => (conv => lhs; simp only [List.getElem?_toArray, List.getElem?_cons_zero, List.getElem?_cons_succ]); try exact rfl
    case br1503 =>
      go_simp
      go_at_call 20
      refine (copyStore_spec _ S HS.out _ (HSto.out _ bw0)).mono ?_
      rintro e r1 ⟨_, rfl, hOS, hb1r⟩
      have bw1 : Below w.heap.size w r1 := bw0.trans (hb1r.mono bw0.size)
      have kX1 : Blk r1 w.heap.size 31 #[.slice A1 n1 c1, .slice A2 n2 c2] := kX0.below hb1r kX0.lt
      have kY1 : Blk r1 (w.heap.size + 1) 34 #[.int .i64 sz, .slice A3 n3 c3] := kY0.below hb1r kY0.lt
      have kRS1 : Blk r1 (w.heap.size + 2) 31 #[.slice none 0 0, .slice none 0 0] := kRS0.below hb1r kRS0.lt
      have kRF1 : Blk r1 (w.heap.size + 3) 34 #[.int .i64 0, .slice none 0 0] := kRF0.below hb1r kRF0.lt
      obtain ⟨_, _, rfl, oa, ob⟩ := hOS
      rw [Hl1.out] at oa
      rw [Hl2.out] at ob
      obtain ⟨D2, D2c, rfl, _, _, _⟩ := own_vals oa
      obtain ⟨D3, D3c, rfl, _, _, _⟩ := own_vals ob
      have oD21 := own_more oa bw0.size
      have oD31 := own_more ob bw0.size
      clear oa ob
      refine hK.out _ _ (by exact ⟨(kX1).get 0 rfl, (kX1).get 1 rfl, (kY1).get 0 rfl, (kY1).get 1 rfl⟩) (fun _ => ?_)
      clear hK K
      refine wpAnyH_ready (rs := [3]) (by kernel_rfl) (by simp) ?_
      refine AllReadyH.cons (o := ?oi1504) ?hi1504 (fun K hK => ?br1504) AllReadyH.nil
      case hi1504 => (conv => lhs; simp only [List.getElem?_toArray, List.getElem?_cons_zero, List.getElem?_cons_succ]); try exact rfl
      case br1504 =>
        go_simp
        go_at_call 21
        refine (copyFil_spec _ F HF.out _ (HFil.out _ bw1)).mono ?_
        rintro e r2 ⟨_, rfl, hOF, hb2r⟩
        have bw2 : Below w.heap.size w r2 := bw1.trans (hb2r.mono bw1.size)
        have kX2 : Blk r2 w.heap.size 31 #[.slice A1 n1 c1, .slice A2 n2 c2] := kX1.below hb2r kX1.lt
        have kY2 : Blk r2 (w.heap.size + 1) 34 #[.int .i64 sz, .slice A3 n3 c3] := kY1.below hb2r kY1.lt
        have kRS2 : Blk r2 (w.heap.size + 2) 31 #[.slice none 0 0, .slice none 0 0] := kRS1.below hb2r kRS1.lt
        have kRF2 : Blk r2 (w.heap.size + 3) 34 #[.int .i64 0, .slice none 0 0] := kRF1.below hb2r kRF1.lt
        have oD22 : r2.ownsRow w.heap.size 4 1 (.slice D2 n1 D2c) n1 (BS S.bs) := own_below oD21 hb2r (Nat.le_refl _)
        have oD32 : r2.ownsRow w.heap.size 9 1 (.slice D3 n2 D3c) n2 (SS S.ds) := own_below oD31 hb2r (Nat.le_refl _)
        obtain ⟨_, rfl, oa⟩ := hOF
        rw [Hl3.out] at oa
        rw [Hsz.out]
        obtain ⟨D4, D4c, rfl, _, _, _⟩ := own_vals oa
        have oD42 := own_more oa bw1.size
        clear oa
        refine hK.out _ _ (by exact ⟨(kX2).get 0 rfl, (kX2).get 1 rfl, (kY2).get 0 rfl, (kY2).get 1 rfl⟩) (fun _ => ?_)
        clear hK K
        refine wpAnyH_ready (rs := [4]) (by kernel_rfl) (by simp) ?_
        refine AllReadyH.cons (o := ?oi1505) ?hi1505 (fun K hK => ?br1505) AllReadyH.nil
        case hi1505 => (conv => lhs; simp only [List.getElem?_toArray, List.getElem?_cons_zero, List.getElem?_cons_succ]); try exact rfl
        case br1505 =>
          have x3_0 := kRS2.get (x := .slice none 0 0) 0 rfl
          have f3_0 := kRS2.frozen 0
          have x3_1 := kRS2.get (x := .slice none 0 0) 1 rfl
          have f3_1 := kRS2.frozen 1
          have lE3 := kRS2.lt
          have neX3 : w.heap.size ≠ (w.heap.size + 2) := by have := kRS2.lt; have := kX2.lt; first | exact Blk.ne_ kX2 kRS2 (by decide) | omega
          have neY3 : (w.heap.size + 1) ≠ (w.heap.size + 2) := by have := kRS2.lt; have := kY2.lt; first | exact Blk.ne_ kY2 kRS2 (by decide) | omega
          have neRF3 : (w.heap.size + 3) ≠ (w.heap.size + 2) := by have := kRS2.lt; have := kRF2.lt; first | exact Blk.ne_ kRF2 kRS2 (by decide) | omega
          go_simp
          refine hK.out _ _ (by exact ⟨(((kX2).far (p := ⟨(w.heap.size + 2), 0, none⟩) neX3 (.slice D2 n1 D2c)).far (p := ⟨(w.heap.size + 2), 1, none⟩) neX3 (.slice D3 n2 D3c)).get 0 rfl, (((kX2).far (p := ⟨(w.heap.size + 2), 0, none⟩) neX3 (.slice D2 n1 D2c)).far (p := ⟨(w.heap.size + 2), 1, none⟩) neX3 (.slice D3 n2 D3c)).get 1 rfl, (((kY2).far (p := ⟨(w.heap.size + 2), 0, none⟩) neY3 (.slice D2 n1 D2c)).far (p := ⟨(w.heap.size + 2), 1, none⟩) neY3 (.slice D3 n2 D3c)).get 0 rfl, (((kY2).far (p := ⟨(w.heap.size + 2), 0, none⟩) neY3 (.slice D2 n1 D2c)).far (p := ⟨(w.heap.size + 2), 1, none⟩) neY3 (.slice D3 n2 D3c)).get 1 rfl⟩) (fun _ => ?_)
          clear hK K x3_0 f3_0 x3_1 f3_1 lE3
          refine foldH ?_
          intro r3 hr3
          have bw3 : Below w.heap.size w r3 := by rw [hr3]; exact belC (belC (bw2) _ 0 (by omega) (.slice D2 n1 D2c)) _ 1 (by omega) (.slice D3 n2 D3c)
          have kX3 : Blk r3 w.heap.size 31 #[.slice A1 n1 c1, .slice A2 n2 c2] := by rw [hr3]; exact ((kX2).far (p := ⟨(w.heap.size + 2), 0, none⟩) neX3 (.slice D2 n1 D2c)).far (p := ⟨(w.heap.size + 2), 1, none⟩) neX3 (.slice D3 n2 D3c)
          have kY3 : Blk r3 (w.heap.size + 1) 34 #[.int .i64 sz, .slice A3 n3 c3] := by rw [hr3]; exact ((kY2).far (p := ⟨(w.heap.size + 2), 0, none⟩) neY3 (.slice D2 n1 D2c)).far (p := ⟨(w.heap.size + 2), 1, none⟩) neY3 (.slice D3 n2 D3c)
          have kRS3 : Blk r3 (w.heap.size + 2) 31 #[.slice D2 n1 D2c, .slice D3 n2 D3c] := by rw [hr3]; exact ((kRS2.put 0 (.slice D2 n1 D2c) #[.slice D2 n1 D2c, .slice none 0 0] rfl).put 1 (.slice D3 n2 D3c) #[.slice D2 n1 D2c, .slice D3 n2 D3c] rfl)
          have kRF3 : Blk r3 (w.heap.size + 3) 34 #[.int .i64 0, .slice none 0 0] := by rw [hr3]; exact ((kRF2).far (p := ⟨(w.heap.size + 2), 0, none⟩) neRF3 (.slice D2 n1 D2c)).far (p := ⟨(w.heap.size + 2), 1, none⟩) neRF3 (.slice D3 n2 D3c)
          have oD23 : r3.ownsRow w.heap.size 4 1 (.slice D2 n1 D2c) n1 (BS S.bs) := by rw [hr3]; exact own_farT (own_farT (oD22) kRS2 (by decide) 0 (.slice D2 n1 D2c)) (kRS2.put 0 (.slice D2 n1 D2c) #[.slice D2 n1 D2c, .slice none 0 0] rfl) (by decide) 1 (.slice D3 n2 D3c)
          have oD33 : r3.ownsRow w.heap.size 9 1 (.slice D3 n2 D3c) n2 (SS S.ds) := by rw [hr3]; exact own_farT (own_farT (oD32) kRS2 (by decide) 0 (.slice D2 n1 D2c)) (kRS2.put 0 (.slice D2 n1 D2c) #[.slice D2 n1 D2c, .slice none 0 0] rfl) (by decide) 1 (.slice D3 n2 D3c)
          have oD43 : r3.ownsRow w.heap.size 76 3 (.slice D4 n3 D4c) n3 (XS F.xs) := by rw [hr3]; exact own_farT (own_farT (oD42) kRS2 (by decide) 0 (.slice D2 n1 D2c)) (kRS2.put 0 (.slice D2 n1 D2c) #[.slice D2 n1 D2c, .slice none 0 0] rfl) (by decide) 1 (.slice D3 n2 D3c)
          clear hr3
          refine wpAnyH_ready (rs := [5]) (by kernel_rfl) (by simp) ?_
          refine AllReadyH.cons (o := ?oi1506) ?hi1506 (fun K hK => ?br1506) AllReadyH.nil
          case hi1506 => (conv => lhs; simp only [List.getElem?_toArray, List.getElem?_cons_zero, List.getElem?_cons_succ]); try exact rfl
          case br1506 =>
            have x4_0 := kRF3.get (x := .int .i64 0) 0 rfl
            have f4_0 := kRF3.frozen 0
            have x4_1 := kRF3.get (x := .slice none 0 0) 1 rfl
            have f4_1 := kRF3.frozen 1
            have lE4 := kRF3.lt
            have neX4 : w.heap.size ≠ (w.heap.size + 3) := by have := kRF3.lt; have := kX3.lt; first | exact Blk.ne_ kX3 kRF3 (by decide) | omega
            have neY4 : (w.heap.size + 1) ≠ (w.heap.size + 3) := by have := kRF3.lt; have := kY3.lt; first | exact Blk.ne_ kY3 kRF3 (by decide) | omega
            have neRS4 : (w.heap.size + 2) ≠ (w.heap.size + 3) := by have := kRF3.lt; have := kRS3.lt; first | exact Blk.ne_ kRS3 kRF3 (by decide) | omega
            go_simp
            refine hK.out _ _ (by exact ⟨(((kX3).far (p := ⟨(w.heap.size + 3), 0, none⟩) neX4 (.int .i64 sz)).far (p := ⟨(w.heap.size + 3), 1, none⟩) neX4 (.slice D4 n3 D4c)).get 0 rfl, (((kX3).far (p := ⟨(w.heap.size + 3), 0, none⟩) neX4 (.int .i64 sz)).far (p := ⟨(w.heap.size + 3), 1, none⟩) neX4 (.slice D4 n3 D4c)).get 1 rfl, (((kY3).far (p := ⟨(w.heap.size + 3), 0, none⟩) neY4 (.int .i64 sz)).far (p := ⟨(w.heap.size + 3), 1, none⟩) neY4 (.slice D4 n3 D4c)).get 0 rfl, (((kY3).far (p := ⟨(w.heap.size + 3), 0, none⟩) neY4 (.int .i64 sz)).far (p := ⟨(w.heap.size + 3), 1, none⟩) neY4 (.slice D4 n3 D4c)).get 1 rfl⟩) (fun _ => ?_)
            clear hK K x4_0 f4_0 x4_1 f4_1 lE4
            refine foldH ?_
            intro r4 hr4
            have bw4 : Below w.heap.size w r4 := by rw [hr4]; exact belC (belC (bw3) _ 0 (by omega) (.int .i64 sz)) _ 1 (by omega) (.slice D4 n3 D4c)
            have kX4 : Blk r4 w.heap.size 31 #[.slice A1 n1 c1, .slice A2 n2 c2] := by rw [hr4]; exact ((kX3).far (p := ⟨(w.heap.size + 3), 0, none⟩) neX4 (.int .i64 sz)).far (p := ⟨(w.heap.size + 3), 1, none⟩) neX4 (.slice D4 n3 D4c)
            have kY4 : Blk r4 (w.heap.size + 1) 34 #[.int .i64 sz, .slice A3 n3 c3] := by rw [hr4]; exact ((kY3).far (p := ⟨(w.heap.size + 3), 0, none⟩) neY4 (.int .i64 sz)).far (p := ⟨(w.heap.size + 3), 1, none⟩) neY4 (.slice D4 n3 D4c)
            have kRS4 : Blk r4 (w.heap.size + 2) 31 #[.slice D2 n1 D2c, .slice D3 n2 D3c] := by rw [hr4]; exact ((kRS3).far (p := ⟨(w.heap.size + 3), 0, none⟩) neRS4 (.int .i64 sz)).far (p := ⟨(w.heap.size + 3), 1, none⟩) neRS4 (.slice D4 n3 D4c)
            have kRF4 : Blk r4 (w.heap.size + 3) 34 #[.int .i64 sz, .slice D4 n3 D4c] := by rw [hr4]; exact ((kRF3.put 0 (.int .i64 sz) #[.int .i64 sz, .slice none 0 0] rfl).put 1 (.slice D4 n3 D4c) #[.int .i64 sz, .slice D4 n3 D4c] rfl)
            have oD24 : r4.ownsRow w.heap.size 4 1 (.slice D2 n1 D2c) n1 (BS S.bs) := by rw [hr4]; exact own_farT (own_farT (oD23) kRF3 (by decide) 0 (.int .i64 sz)) (kRF3.put 0 (.int .i64 sz) #[.int .i64 sz, .slice none 0 0] rfl) (by decide) 1 (.slice D4 n3 D4c)
            have oD34 : r4.ownsRow w.heap.size 9 1 (.slice D3 n2 D3c) n2 (SS S.ds) := by rw [hr4]; exact own_farT (own_farT (oD33) kRF3 (by decide) 0 (.int .i64 sz)) (kRF3.put 0 (.int .i64 sz) #[.int .i64 sz, .slice none 0 0] rfl) (by decide) 1 (.slice D4 n3 D4c)
            have oD44 : r4.ownsRow w.heap.size 76 3 (.slice D4 n3 D4c) n3 (XS F.xs) := by rw [hr4]; exact own_farT (own_farT (oD43) kRF3 (by decide) 0 (.int .i64 sz)) (kRF3.put 0 (.int .i64 sz) #[.int .i64 sz, .slice none 0 0] rfl) (by decide) 1 (.slice D4 n3 D4c)
            clear hr4
            refine wpAnyH_take (i := 6) (oi := ?oi1507) (v := ?v1507) ?hi1507 ?hs1507 ?hf1507 ?hr1507 ?hQ1507 ?hy1507 ?hS1507 ?hrest1507
            case hi1507 => (conv => lhs; simp only [List.getElem?_toArray, List.getElem?_cons_zero, List.getElem?_cons_succ]); try exact rfl
            case hs1507 => kernel_rfl
            case hf1507 => kernel_rfl
            case hr1507 => kernel_rfl
            case hQ1507 => exact fun _ _ _ h => h
            case hS1507 => exact ⟨(kX4).get 0 rfl, (kX4).get 1 rfl, (kY4).get 0 rfl, (kY4).get 1 rfl⟩
            case hy1507 => refine Or.inl ⟨by rfl, ?_⟩; intro w hSw; (try dsimp only at hSw); go_simp; (try with_reducible rfl)
            simp only [Act.put, List.setIfInBounds_toArray, List.set_cons_zero, List.set_cons_succ]
            refine wpAnyH_done (by kernel_rfl) ?_ _
            have r0f := kRS4.get (x := .slice D2 n1 D2c) 0 rfl
            have r1f := kRS4.get (x := .slice D3 n2 D3c) 1 rfl
            have r2f := kRF4.get (x := .int .i64 sz) 0 rfl
            have r3f := kRF4.get (x := .slice D4 n3 D4c) 1 rfl
            have OO1 := Lib.hid (own_eqn oD24 Hl1.out.symm)
            have OO2 := Lib.hid (own_eqn oD34 Hl2.out.symm)
            have OO3 := Lib.hid (own_eqn oD44 Hl3.out.symm)
            have lF1 := kRS4.lt
            have lF2 := kRF4.lt
            have BE := bw4
            clear kX4 kY4 kRS4 kRF4 oD24 oD34 oD44
            go_wp2
            obtain ⟨rfl, rfl, rfl⟩ := HPe.out
            exact bodyPost_ret (v := .tuple #[.agg #[.slice D2 n1 D2c, .slice D3 n2 D3c], .agg #[.int .i64 sz, .slice D4 n3 D4c], .bool true]) (by simp [results, Try.results6, go_sem, r0f, r1f, r2f, r3f]) rfl (wrPost_of (Hsz.out) OO1.out OO2.out OO3.out BE)
  obtain ⟨em1, em2, em3⟩ := full_tests hem
  obtain ⟨o, rfl⟩ : ∃ o : Nat, off = o := ⟨off.toNat, by omega⟩
  have HP2 := Lib.hid (show wrOut S F o data = (S', F', ok) by have h := HP.out; unfold writeP at h; rw [if_pos ⟨hok, by omega, by omega⟩, if_neg hem] at h; simpa using h)
  have hst := storeOk_iff.1 (filOk_parts hok).1
  have hn1 : n1 = 24 := by rw [← Hl1.out]; exact hst.1
  have hn2 : n2 = 24 := by rw [← Hl2.out]; exact hst.2.1
  subst hn1
  subst hn2
  have HWI := Lib.hid (show WI (S.bs, S.ds, F.xs) from ⟨hst.1, hst.2.1, hst.2.2, HF.out⟩)
  have x0 := kX.out.get (x := .slice A1 24 c1) 0 rfl
  have x1 := kX.out.get (x := .slice A2 24 c2) 1 rfl
  have lX := kX.out.lt
  clear hst hok
  go_wp2_with fail
  refine (copyStore_spec _ S HS.out _ (HSto.out _ BC)).mono ?_
  rintro e w3 ⟨_, rfl, ⟨_, _, rfl, oa, ob⟩, hb3⟩
  rw [Hl1.out] at oa
  rw [Hl2.out] at ob
  obtain ⟨g1, D2c, rfl⟩ := own_form1 oa (by omega)
  obtain ⟨g2, D3c, rfl⟩ := own_form1 ob (by omega)
  clear x0 x1 lX
  have lw3 : w.heap.size + 4 ≤ w3.heap.size := Nat.le_trans kRF.out.lt hb3.size
  have Oa := Lib.hid ((own_more oa BC.size).alloc (.cells #[.slice (some ⟨g1, 0, none⟩) 24 D2c, .slice (some ⟨g2, 0, none⟩) 24 D3c] 31))
  have Ob := Lib.hid ((own_more ob BC.size).alloc (.cells #[.slice (some ⟨g1, 0, none⟩) 24 D2c, .slice (some ⟨g2, 0, none⟩) 24 D3c] 31))
  have KO := Lib.hid (Blk.new w3 31 #[.slice (some ⟨g1, 0, none⟩) 24 D2c, .slice (some ⟨g2, 0, none⟩) 24 D3c])
  replace kX := Lib.hid ((kX.out.below hb3 kX.out.lt).alloc (.cells #[.slice (some ⟨g1, 0, none⟩) 24 D2c, .slice (some ⟨g2, 0, none⟩) 24 D3c] 31))
  replace kY := Lib.hid ((kY.out.below hb3 kY.out.lt).alloc (.cells #[.slice (some ⟨g1, 0, none⟩) 24 D2c, .slice (some ⟨g2, 0, none⟩) 24 D3c] 31))
  replace kRS := Lib.hid ((kRS.out.below hb3 kRS.out.lt).alloc (.cells #[.slice (some ⟨g1, 0, none⟩) 24 D2c, .slice (some ⟨g2, 0, none⟩) 24 D3c] 31))
  replace kRF := Lib.hid ((kRF.out.below hb3 kRF.out.lt).alloc (.cells #[.slice (some ⟨g1, 0, none⟩) 24 D2c, .slice (some ⟨g2, 0, none⟩) 24 D3c] 31))
  replace BC := belA (BC.trans (hb3.mono BC.size)) (.cells #[.slice (some ⟨g1, 0, none⟩) 24 D2c, .slice (some ⟨g2, 0, none⟩) 24 D3c] 31)
  clear oa ob hb3
  obtain ⟨w4, hw4⟩ : ∃ W, w3.alloc (.cells #[.slice (some ⟨g1, 0, none⟩) 24 D2c, .slice (some ⟨g2, 0, none⟩) 24 D3c] 31) = W := ⟨_, rfl⟩
  obtain ⟨gO, hgO⟩ : ∃ g, w3.heap.size = g := ⟨_, rfl⟩
  rw [hw4, hgO] at KO
  rw [hw4] at Oa Ob kX kY kRS kRF BC
  rw [hgO] at lw3
  have y0 := kY.out.get (x := .int .i64 sz) 0 rfl
  have y1 := kY.out.get (x := .slice A3 n3 c3) 1 rfl
  have lY := kY.out.lt
  go_wp2_with fail
  try rw [hw4]
  try rw [hgO]
  clear hw4 hgO y0 y1 lY
  refine (copyFil_spec _ F HF.out _ (HFil.out _ BC)).mono ?_
  rintro e w5 ⟨_, rfl, ⟨_, rfl, oc⟩, hb5⟩
  rw [Hsz.out]
  rw [Hl3.out] at oc
  obtain ⟨D4, D4c, rfl, _, _, _⟩ := own_vals oc
  have lw5 : w.heap.size + 4 ≤ w5.heap.size := Nat.le_trans (Nat.le_of_lt (Nat.lt_of_le_of_lt lw3 KO.out.lt)) hb5.size
  obtain ⟨w6, hw6⟩ : ∃ W, w5.alloc (.cells #[.int .i64 sz, .slice D4 n3 D4c] 34) = W := ⟨_, rfl⟩
  obtain ⟨gF, hgF⟩ : ∃ g, w5.heap.size = g := ⟨_, rfl⟩
  have HW := Lib.hid (show WrW w w6 #[.slice A1 24 c1, .slice A2 24 c2] #[.int .i64 sz, .slice A3 n3 c3] gO gF g1 D2c g2 D3c sz D4 D4c (S.bs, S.ds, F.xs) by
    rw [← hw6, ← hgF]
    exact ⟨(kX.out.below hb5 kX.out.lt).alloc _, (kY.out.below hb5 kY.out.lt).alloc _, (kRS.out.below hb5 kRS.out.lt).alloc _, (kRF.out.below hb5 kRF.out.lt).alloc _, (KO.out.below hb5 KO.out.lt).alloc _, by rw [Hl3.out]; exact Blk.new _ _ _,
      (own_below Oa.out hb5 (Nat.le_refl _)).alloc _, (own_below Ob.out hb5 (Nat.le_refl _)).alloc _, by rw [Hl3.out]; exact (own_more oc BC.size).alloc _, lw3, lw5, belA (BC.trans (hb5.mono BC.size)) _⟩)
  clear kX kY kRS kRF KO Oa Ob oc hb5 BC wds HP
  have he48 : o + data.size ≤ 48 := by omega
  obtain ⟨E, hE⟩ : ∃ E : Nat, (o + data.size + 3) / 4 = E := ⟨_, rfl⟩
  obtain ⟨q, hq⟩ : ∃ q : Nat, o / 4 = q := ⟨_, rfl⟩
  have hqE : q < E := by omega
  have HqE := Lib.hid (show o / 4 = q ∧ (o + data.size + 3) / 4 = E from ⟨hq, hE⟩)
  have hoq : (o : Int) / 4 = (q : Int) := by omega
  have HLoop := Lib.hid (show wrOut S F o data = wrRes S F o data (wrLoop o data (E - q) q (S.bs, S.ds, F.xs)) by unfold wrOut wrN; rw [hq, hE])
  obtain ⟨LP, hLP⟩ : ∃ L, wrLoop o data (E - q) q (S.bs, S.ds, F.xs) = L := ⟨_, rfl⟩
  rw [hLP] at HLoop
  have HLP := Lib.hid hLP
  clear hLP hE hq
  have wod : IntKind.i64.wrap ((o : Int) + (data.size : Int)) = (o : Int) + (data.size : Int) := by rw [IntKind.wrap_i64]; omega
  go_wp2_with fail
  try rw [hw6]
  try rw [hgF]
  clear hw6 hgF
  go_loopw [13] (fun t wr => ∃ (i rem : Nat) (s : WSt) (Ae : Option Addr) (ce : Nat), t = .int .i64 i ∧ q ≤ i ∧ i + rem = E ∧ Hid (wrLoop o data rem i s = LP) ∧ Hid (WI s) ∧ Hid (WrW w wr #[.slice A1 24 c1, .slice A2 24 c2] #[.int .i64 sz, .slice A3 n3 c3] gO gF g1 D2c g2 D3c sz Ae ce s)) (fun t _ => E - (intOf t).toNat)
  case atStart => exact ⟨q, E - q, _, D4, D4c, by first | rfl | go_num, by omega, by omega, HLP.out, HWI.out, HW.out⟩
  case round =>
    clear HW HWI HLP em1 em2 em3
    obtain ⟨i, rem, s, Ae, ce, rfl, hqi, hiE, HL, HI, HW⟩ := hrel
    have HqE2 := HqE.out
    have hE12 : E ≤ 12 := by omega
    have wi4 : IntKind.i64.wrap ((i : Int) * 4) = (i : Int) * 4 := by rw [IntKind.wrap_i64]; omega
    by_cases hlt : i < E
    · obtain ⟨r, rfl⟩ : ∃ r, rem = r + 1 := ⟨rem - 1, by omega⟩
      have q0 : (0 : Int) ≤ (i : Int) := by omega
      have q1 : (i : Int) * 4 < (o : Int) + (data.size : Int) := by omega
      have hi12 : i < 12 := by omega
      have Hin := Lib.hid (show o < (i + 1) * 4 ∧ i * 4 < o + data.size by omega)
      have fF1 := HW.out.F.get (x := .slice Ae s.2.2.length ce) 1 rfl
      have lF1 := HW.out.F.lt
      clear HqE2
      go_wp2_with fail
      refine (blockAt_spec Ae s.2.2.length ce s.2.2 HI.out.x i hi12 _ (own_reads0 HW.out.b3)).mono ?_
      rintro e w3 ⟨rfl, hb3⟩
      replace HW := Lib.hid (HW.out.next hb3)
      clear fF1 lF1 hb3
      go_upto_if 69 with fail
      go_cut [14] from 55 to 137 (fun t wx => ∃ (b : Nat) (s1 : WSt) (Ae1 : Option Addr) (ce1 : Nat), t = .int .i64 b ∧ Hid (wrPick i s = some (b, s1)) ∧ Hid (WrW w wx #[.slice A1 24 c1, .slice A2 24 c2] #[.int .i64 sz, .slice A3 n3 c3] gO gF g1 D2c g2 D3c sz Ae1 ce1 s1))
      case first => as_aux_lemma =>
        have hbd := blockP_bd s.2.2 i
        by_cases hb0 : blockP s.2.2 i < 0
        · have hb0b : decide (blockP s.2.2 i < 0) = true := by simpa using hb0
          have fO0 := HW.out.O.get (x := .slice (some ⟨g1, 0, none⟩) 24 D2c) 0 rfl
          have lO0 := HW.out.O.lt
          go_wp2_with fail
          refine (findRun_spec (some ⟨g1, 0, none⟩) 24 D2c s.1 _ (own_reads0 HW.out.b1)).mono ?_
          rintro e w4 ⟨rfl, hb4⟩
          replace HW := Lib.hid (HW.out.next hb4)
          clear fO0 lO0 hb4 hb0b
          have hfd := findP_bd s.1
          by_cases hf0 : findP s.1 < 0
          · have HPe := Lib.hid (show S = S' ∧ F = F' ∧ false = ok by
              have h := HP2.out
              rw [HLoop.out, ← HL.out, wrLoop_none (wrPick_no hb0 hf0)] at h
              simpa [wrRes] using h)
            go_upto_region 14 with fail
            refine wp_region_held_drew (S := fun w' => w'.cell? ⟨w.heap.size, 0, none⟩ = some (.slice A1 24 c1) ∧ w'.cell? ⟨w.heap.size, 1, none⟩ = some (.slice A2 24 c2) ∧ w'.cell? ⟨(w.heap.size + 1), 0, none⟩ = some (.int .i64 sz) ∧ w'.cell? ⟨(w.heap.size + 1), 1, none⟩ = some (.slice A3 n3 c3)) (by kernel_rfl) (by exact ⟨(HW.out.X).get 0 rfl, (HW.out.X).get 1 rfl, (HW.out.Y).get 0 rfl, (HW.out.Y).get 1 rfl⟩) (fun hHeld => ?_)
            clear hHeld
            refine foldH ?_
            intro r0 hr0
            have bw0 : Below w.heap.size w r0 := by rw [hr0]; exact (HW.out.bel).drew
            have kX0 : Blk r0 w.heap.size 31 #[.slice A1 24 c1, .slice A2 24 c2] := by rw [hr0]; exact HW.out.X.drew
            have kY0 : Blk r0 (w.heap.size + 1) 34 #[.int .i64 sz, .slice A3 n3 c3] := by rw [hr0]; exact HW.out.Y.drew
            have kRS0 : Blk r0 (w.heap.size + 2) 31 #[.slice none 0 0, .slice none 0 0] := by rw [hr0]; exact HW.out.RS.drew
            have kRF0 : Blk r0 (w.heap.size + 3) 34 #[.int .i64 0, .slice none 0 0] := by rw [hr0]; exact HW.out.RF.drew
            clear hr0
            refine wpAnyH_take (i := 0) (oi := ?oi5001) (v := ?v5001) ?hi5001 ?hs5001 ?hf5001 ?hr5001 ?hQ5001 ?hy5001 ?hS5001 ?hrest5001
            case hi5001 => (conv => lhs; simp only [List.getElem?_toArray, List.getElem?_cons_zero]); try exact rfl
            case hs5001 => kernel_rfl
            case hf5001 => kernel_rfl
            case hr5001 => kernel_rfl
            case hQ5001 => exact fun _ _ _ h => h
            case hS5001 => exact ⟨(kX0).get 0 rfl, (kX0).get 1 rfl, (kY0).get 0 rfl, (kY0).get 1 rfl⟩
            case hy5001 => refine Or.inl ⟨by rfl, ?_⟩; intro w hSw; (try dsimp only at hSw); go_simp; (try with_reducible rfl)
            simp only [Act.put, List.setIfInBounds_toArray, List.set_cons_zero, List.set_cons_succ]
            refine wpAnyH_take (i := 2) (oi := ?oi5002) (v := ?v5002) ?hi5002 ?hs5002 ?hf5002 ?hr5002 ?hQ5002 ?hy5002 ?hS5002 ?hrest5002
            case hi5002 => (conv => lhs; simp only [List.getElem?_toArray, List.getElem?_cons_zero, List.getElem?_cons_succ]); try exact rfl
            case hs5002 => kernel_rfl
            case hf5002 => kernel_rfl
            case hr5002 => kernel_rfl
            case hQ5002 => exact fun _ _ _ h => h
            case hS5002 => exact ⟨(kX0).get 0 rfl, (kX0).get 1 rfl, (kY0).get 0 rfl, (kY0).get 1 rfl⟩
            case hy5002 => refine Or.inl ⟨by rfl, ?_⟩; intro w hSw; (try dsimp only at hSw); go_simp; (try with_reducible rfl)
            simp only [Act.put, List.setIfInBounds_toArray, List.set_cons_zero, List.set_cons_succ]
            refine wpAnyH_ready (rs := [1]) (by kernel_rfl) (by simp) ?_
            refine AllReadyH.cons (o := ?oi5003) ?hi5003 (fun K hK => ?br5003) AllReadyH.nil
            case hi5003 => (conv => lhs; simp only [List.getElem?_toArray, List.getElem?_cons_zero, List.getElem?_cons_succ]); try exact rfl
            case br5003 =>
              go_simp
              go_at_call 20
              refine (copyStore_spec _ S HS.out _ (HSto.out _ bw0)).mono ?_
              rintro e r1 ⟨_, rfl, hOS, hb1r⟩
              have bw1 : Below w.heap.size w r1 := bw0.trans (hb1r.mono bw0.size)
              have kX1 : Blk r1 w.heap.size 31 #[.slice A1 24 c1, .slice A2 24 c2] := kX0.below hb1r kX0.lt
              have kY1 : Blk r1 (w.heap.size + 1) 34 #[.int .i64 sz, .slice A3 n3 c3] := kY0.below hb1r kY0.lt
              have kRS1 : Blk r1 (w.heap.size + 2) 31 #[.slice none 0 0, .slice none 0 0] := kRS0.below hb1r kRS0.lt
              have kRF1 : Blk r1 (w.heap.size + 3) 34 #[.int .i64 0, .slice none 0 0] := kRF0.below hb1r kRF0.lt
              obtain ⟨_, _, rfl, oa, ob⟩ := hOS
              rw [Hl1.out] at oa
              rw [Hl2.out] at ob
              obtain ⟨D2, D2c, rfl, _, _, _⟩ := own_vals oa
              obtain ⟨D3, D3c, rfl, _, _, _⟩ := own_vals ob
              have oD21 := own_more oa bw0.size
              have oD31 := own_more ob bw0.size
              clear oa ob
              refine hK.out _ _ (by exact ⟨(kX1).get 0 rfl, (kX1).get 1 rfl, (kY1).get 0 rfl, (kY1).get 1 rfl⟩) (fun _ => ?_)
              clear hK K
              refine wpAnyH_ready (rs := [3]) (by kernel_rfl) (by simp) ?_
              refine AllReadyH.cons (o := ?oi5004) ?hi5004 (fun K hK => ?br5004) AllReadyH.nil
              case hi5004 => (conv => lhs; simp only [List.getElem?_toArray, List.getElem?_cons_zero, List.getElem?_cons_succ]); try exact rfl
              case br5004 =>
                go_simp
                go_at_call 21
                refine (copyFil_spec _ F HF.out _ (HFil.out _ bw1)).mono ?_
                rintro e r2 ⟨_, rfl, hOF, hb2r⟩
                have bw2 : Below w.heap.size w r2 := bw1.trans (hb2r.mono bw1.size)
                have kX2 : Blk r2 w.heap.size 31 #[.slice A1 24 c1, .slice A2 24 c2] := kX1.below hb2r kX1.lt
                have kY2 : Blk r2 (w.heap.size + 1) 34 #[.int .i64 sz, .slice A3 n3 c3] := kY1.below hb2r kY1.lt
                have kRS2 : Blk r2 (w.heap.size + 2) 31 #[.slice none 0 0, .slice none 0 0] := kRS1.below hb2r kRS1.lt
                have kRF2 : Blk r2 (w.heap.size + 3) 34 #[.int .i64 0, .slice none 0 0] := kRF1.below hb2r kRF1.lt
                have oD22 : r2.ownsRow w.heap.size 4 1 (.slice D2 24 D2c) 24 (BS S.bs) := own_below oD21 hb2r (Nat.le_refl _)
                have oD32 : r2.ownsRow w.heap.size 9 1 (.slice D3 24 D3c) 24 (SS S.ds) := own_below oD31 hb2r (Nat.le_refl _)
                obtain ⟨_, rfl, oa⟩ := hOF
                rw [Hl3.out] at oa
                rw [Hsz.out]
                obtain ⟨D4, D4c, rfl, _, _, _⟩ := own_vals oa
                have oD42 := own_more oa bw1.size
                clear oa
                refine hK.out _ _ (by exact ⟨(kX2).get 0 rfl, (kX2).get 1 rfl, (kY2).get 0 rfl, (kY2).get 1 rfl⟩) (fun _ => ?_)
                clear hK K
                refine wpAnyH_ready (rs := [4]) (by kernel_rfl) (by simp) ?_
                refine AllReadyH.cons (o := ?oi5005) ?hi5005 (fun K hK => ?br5005) AllReadyH.nil
                case hi5005 => (conv => lhs; simp only [List.getElem?_toArray, List.getElem?_cons_zero, List.getElem?_cons_succ]); try exact rfl
                case br5005 =>
                  have x3_0 := kRS2.get (x := .slice none 0 0) 0 rfl
                  have f3_0 := kRS2.frozen 0
                  have x3_1 := kRS2.get (x := .slice none 0 0) 1 rfl
                  have f3_1 := kRS2.frozen 1
                  have lE3 := kRS2.lt
                  have neX3 : w.heap.size ≠ (w.heap.size + 2) := by have := kRS2.lt; have := kX2.lt; first | exact Blk.ne_ kX2 kRS2 (by decide) | omega
                  have neY3 : (w.heap.size + 1) ≠ (w.heap.size + 2) := by have := kRS2.lt; have := kY2.lt; first | exact Blk.ne_ kY2 kRS2 (by decide) | omega
                  have neRF3 : (w.heap.size + 3) ≠ (w.heap.size + 2) := by have := kRS2.lt; have := kRF2.lt; first | exact Blk.ne_ kRF2 kRS2 (by decide) | omega
                  go_simp
                  refine hK.out _ _ (by exact ⟨(((kX2).far (p := ⟨(w.heap.size + 2), 0, none⟩) neX3 (.slice D2 24 D2c)).far (p := ⟨(w.heap.size + 2), 1, none⟩) neX3 (.slice D3 24 D3c)).get 0 rfl, (((kX2).far (p := ⟨(w.heap.size + 2), 0, none⟩) neX3 (.slice D2 24 D2c)).far (p := ⟨(w.heap.size + 2), 1, none⟩) neX3 (.slice D3 24 D3c)).get 1 rfl, (((kY2).far (p := ⟨(w.heap.size + 2), 0, none⟩) neY3 (.slice D2 24 D2c)).far (p := ⟨(w.heap.size + 2), 1, none⟩) neY3 (.slice D3 24 D3c)).get 0 rfl, (((kY2).far (p := ⟨(w.heap.size + 2), 0, none⟩) neY3 (.slice D2 24 D2c)).far (p := ⟨(w.heap.size + 2), 1, none⟩) neY3 (.slice D3 24 D3c)).get 1 rfl⟩) (fun _ => ?_)
                  clear hK K x3_0 f3_0 x3_1 f3_1 lE3
                  refine foldH ?_
                  intro r3 hr3
                  have bw3 : Below w.heap.size w r3 := by rw [hr3]; exact belC (belC (bw2) _ 0 (by omega) (.slice D2 24 D2c)) _ 1 (by omega) (.slice D3 24 D3c)
                  have kX3 : Blk r3 w.heap.size 31 #[.slice A1 24 c1, .slice A2 24 c2] := by rw [hr3]; exact ((kX2).far (p := ⟨(w.heap.size + 2), 0, none⟩) neX3 (.slice D2 24 D2c)).far (p := ⟨(w.heap.size + 2), 1, none⟩) neX3 (.slice D3 24 D3c)
                  have kY3 : Blk r3 (w.heap.size + 1) 34 #[.int .i64 sz, .slice A3 n3 c3] := by rw [hr3]; exact ((kY2).far (p := ⟨(w.heap.size + 2), 0, none⟩) neY3 (.slice D2 24 D2c)).far (p := ⟨(w.heap.size + 2), 1, none⟩) neY3 (.slice D3 24 D3c)
                  have kRS3 : Blk r3 (w.heap.size + 2) 31 #[.slice D2 24 D2c, .slice D3 24 D3c] := by rw [hr3]; exact ((kRS2.put 0 (.slice D2 24 D2c) #[.slice D2 24 D2c, .slice none 0 0] rfl).put 1 (.slice D3 24 D3c) #[.slice D2 24 D2c, .slice D3 24 D3c] rfl)
                  have kRF3 : Blk r3 (w.heap.size + 3) 34 #[.int .i64 0, .slice none 0 0] := by rw [hr3]; exact ((kRF2).far (p := ⟨(w.heap.size + 2), 0, none⟩) neRF3 (.slice D2 24 D2c)).far (p := ⟨(w.heap.size + 2), 1, none⟩) neRF3 (.slice D3 24 D3c)
                  have oD23 : r3.ownsRow w.heap.size 4 1 (.slice D2 24 D2c) 24 (BS S.bs) := by rw [hr3]; exact own_farT (own_farT (oD22) kRS2 (by decide) 0 (.slice D2 24 D2c)) (kRS2.put 0 (.slice D2 24 D2c) #[.slice D2 24 D2c, .slice none 0 0] rfl) (by decide) 1 (.slice D3 24 D3c)
                  have oD33 : r3.ownsRow w.heap.size 9 1 (.slice D3 24 D3c) 24 (SS S.ds) := by rw [hr3]; exact own_farT (own_farT (oD32) kRS2 (by decide) 0 (.slice D2 24 D2c)) (kRS2.put 0 (.slice D2 24 D2c) #[.slice D2 24 D2c, .slice none 0 0] rfl) (by decide) 1 (.slice D3 24 D3c)
                  have oD43 : r3.ownsRow w.heap.size 76 3 (.slice D4 n3 D4c) n3 (XS F.xs) := by rw [hr3]; exact own_farT (own_farT (oD42) kRS2 (by decide) 0 (.slice D2 24 D2c)) (kRS2.put 0 (.slice D2 24 D2c) #[.slice D2 24 D2c, .slice none 0 0] rfl) (by decide) 1 (.slice D3 24 D3c)
                  clear hr3
                  refine wpAnyH_ready (rs := [5]) (by kernel_rfl) (by simp) ?_
                  refine AllReadyH.cons (o := ?oi5006) ?hi5006 (fun K hK => ?br5006) AllReadyH.nil
                  case hi5006 => (conv => lhs; simp only [List.getElem?_toArray, List.getElem?_cons_zero, List.getElem?_cons_succ]); try exact rfl
                  case br5006 =>
                    have x4_0 := kRF3.get (x := .int .i64 0) 0 rfl
                    have f4_0 := kRF3.frozen 0
                    have x4_1 := kRF3.get (x := .slice none 0 0) 1 rfl
                    have f4_1 := kRF3.frozen 1
                    have lE4 := kRF3.lt
                    have neX4 : w.heap.size ≠ (w.heap.size + 3) := by have := kRF3.lt; have := kX3.lt; first | exact Blk.ne_ kX3 kRF3 (by decide) | omega
                    have neY4 : (w.heap.size + 1) ≠ (w.heap.size + 3) := by have := kRF3.lt; have := kY3.lt; first | exact Blk.ne_ kY3 kRF3 (by decide) | omega
                    have neRS4 : (w.heap.size + 2) ≠ (w.heap.size + 3) := by have := kRF3.lt; have := kRS3.lt; first | exact Blk.ne_ kRS3 kRF3 (by decide) | omega
                    go_simp
                    refine hK.out _ _ (by exact ⟨(((kX3).far (p := ⟨(w.heap.size + 3), 0, none⟩) neX4 (.int .i64 sz)).far (p := ⟨(w.heap.size + 3), 1, none⟩) neX4 (.slice D4 n3 D4c)).get 0 rfl, (((kX3).far (p := ⟨(w.heap.size + 3), 0, none⟩) neX4 (.int .i64 sz)).far (p := ⟨(w.heap.size + 3), 1, none⟩) neX4 (.slice D4 n3 D4c)).get 1 rfl, (((kY3).far (p := ⟨(w.heap.size + 3), 0, none⟩) neY4 (.int .i64 sz)).far (p := ⟨(w.heap.size + 3), 1, none⟩) neY4 (.slice D4 n3 D4c)).get 0 rfl, (((kY3).far (p := ⟨(w.heap.size + 3), 0, none⟩) neY4 (.int .i64 sz)).far (p := ⟨(w.heap.size + 3), 1, none⟩) neY4 (.slice D4 n3 D4c)).get 1 rfl⟩) (fun _ => ?_)
                    clear hK K x4_0 f4_0 x4_1 f4_1 lE4
                    refine foldH ?_
                    intro r4 hr4
                    have bw4 : Below w.heap.size w r4 := by rw [hr4]; exact belC (belC (bw3) _ 0 (by omega) (.int .i64 sz)) _ 1 (by omega) (.slice D4 n3 D4c)
                    have kX4 : Blk r4 w.heap.size 31 #[.slice A1 24 c1, .slice A2 24 c2] := by rw [hr4]; exact ((kX3).far (p := ⟨(w.heap.size + 3), 0, none⟩) neX4 (.int .i64 sz)).far (p := ⟨(w.heap.size + 3), 1, none⟩) neX4 (.slice D4 n3 D4c)
                    have kY4 : Blk r4 (w.heap.size + 1) 34 #[.int .i64 sz, .slice A3 n3 c3] := by rw [hr4]; exact ((kY3).far (p := ⟨(w.heap.size + 3), 0, none⟩) neY4 (.int .i64 sz)).far (p := ⟨(w.heap.size + 3), 1, none⟩) neY4 (.slice D4 n3 D4c)
                    have kRS4 : Blk r4 (w.heap.size + 2) 31 #[.slice D2 24 D2c, .slice D3 24 D3c] := by rw [hr4]; exact ((kRS3).far (p := ⟨(w.heap.size + 3), 0, none⟩) neRS4 (.int .i64 sz)).far (p := ⟨(w.heap.size + 3), 1, none⟩) neRS4 (.slice D4 n3 D4c)
                    have kRF4 : Blk r4 (w.heap.size + 3) 34 #[.int .i64 sz, .slice D4 n3 D4c] := by rw [hr4]; exact ((kRF3.put 0 (.int .i64 sz) #[.int .i64 sz, .slice none 0 0] rfl).put 1 (.slice D4 n3 D4c) #[.int .i64 sz, .slice D4 n3 D4c] rfl)
                    have oD24 : r4.ownsRow w.heap.size 4 1 (.slice D2 24 D2c) 24 (BS S.bs) := by rw [hr4]; exact own_farT (own_farT (oD23) kRF3 (by decide) 0 (.int .i64 sz)) (kRF3.put 0 (.int .i64 sz) #[.int .i64 sz, .slice none 0 0] rfl) (by decide) 1 (.slice D4 n3 D4c)
                    have oD34 : r4.ownsRow w.heap.size 9 1 (.slice D3 24 D3c) 24 (SS S.ds) := by rw [hr4]; exact own_farT (own_farT (oD33) kRF3 (by decide) 0 (.int .i64 sz)) (kRF3.put 0 (.int .i64 sz) #[.int .i64 sz, .slice none 0 0] rfl) (by decide) 1 (.slice D4 n3 D4c)
                    have oD44 : r4.ownsRow w.heap.size 76 3 (.slice D4 n3 D4c) n3 (XS F.xs) := by rw [hr4]; exact own_farT (own_farT (oD43) kRF3 (by decide) 0 (.int .i64 sz)) (kRF3.put 0 (.int .i64 sz) #[.int .i64 sz, .slice none 0 0] rfl) (by decide) 1 (.slice D4 n3 D4c)
                    clear hr4
                    refine wpAnyH_take (i := 6) (oi := ?oi5007) (v := ?v5007) ?hi5007 ?hs5007 ?hf5007 ?hr5007 ?hQ5007 ?hy5007 ?hS5007 ?hrest5007
                    case hi5007 => (conv => lhs; simp only [List.getElem?_toArray, List.getElem?_cons_zero, List.getElem?_cons_succ]); try exact rfl
                    case hs5007 => kernel_rfl
                    case hf5007 => kernel_rfl
                    case hr5007 => kernel_rfl
                    case hQ5007 => exact fun _ _ _ h => h
                    case hS5007 => exact ⟨(kX4).get 0 rfl, (kX4).get 1 rfl, (kY4).get 0 rfl, (kY4).get 1 rfl⟩
                    case hy5007 => refine Or.inl ⟨by rfl, ?_⟩; intro w hSw; (try dsimp only at hSw); go_simp; (try with_reducible rfl)
                    simp only [Act.put, List.setIfInBounds_toArray, List.set_cons_zero, List.set_cons_succ]
                    refine wpAnyH_done (by kernel_rfl) ?_ _
                    have r0f := kRS4.get (x := .slice D2 24 D2c) 0 rfl
                    have r1f := kRS4.get (x := .slice D3 24 D3c) 1 rfl
                    have r2f := kRF4.get (x := .int .i64 sz) 0 rfl
                    have r3f := kRF4.get (x := .slice D4 n3 D4c) 1 rfl
                    have OO1 := Lib.hid (own_eqn oD24 Hl1.out.symm)
                    have OO2 := Lib.hid (own_eqn oD34 Hl2.out.symm)
                    have OO3 := Lib.hid (own_eqn oD44 Hl3.out.symm)
                    have lF1 := kRS4.lt
                    have lF2 := kRF4.lt
                    have BE := bw4
                    clear kX4 kY4 kRS4 kRF4 oD24 oD34 oD44
                    go_wp2
                    obtain ⟨rfl, rfl, rfl⟩ := HPe.out
                    exact bodyPost_ret (v := .tuple #[.agg #[.slice D2 24 D2c, .slice D3 24 D3c], .agg #[.int .i64 sz, .slice D4 n3 D4c], .bool false]) (by simp [results, Try.results6, go_sem, r0f, r1f, r2f, r3f]) rfl (wrPost_of (Hsz.out) OO1.out OO2.out OO3.out BE)
          · obtain ⟨b, hbe⟩ : ∃ b : Nat, findP s.1 = b := ⟨(findP s.1).toNat, by omega⟩
            have HPk := Lib.hid (wrPick_new hb0 hbe)
            have hb24 : b < 24 := by omega
            have b0 : (0 : Int) ≤ (b : Int) := by omega
            have b1 : (b : Int) < 24 := by omega
            rw [hbe]
            have fO0 := HW.out.O.get (x := .slice (some ⟨g1, 0, none⟩) 24 D2c) 0 rfl
            have lO0 := HW.out.O.lt
            obtain ⟨u0, ck⟩ := own_cel HW.out.b1 b hb24
            have fk := own_frozen HW.out.b1 b
            clear hb0 hf0 hbe hfd hbd
            go_upto_region 16 with fail
            have HW5 := HW.out.bit b true
            clear fO0 lO0 ck fk HW
            generalize w4.setCell ⟨g1, b, none⟩ (.bool true) = w5 at HW5 ⊢
            have HW := Lib.hid HW5
            have fO1 := HW5.O.get (x := .slice (some ⟨g2, 0, none⟩) 24 D3c) 1 rfl
            have lO1 := HW5.O.lt
            clear HW5
            go_region_held3 (fun w' => w'.cell? ⟨gO, 1, none⟩ = some (.slice (some ⟨g2, 0, none⟩) 24 D3c)) (first | go_keep | (refine keep1 hb9 ?_ <;> go_keep))
              (first
                | (go_at_call 24; refine (zeros_spec 4 (by omega) _).mono ?_; rintro e w9 ⟨rfl, hb9⟩; have HW9 := HW.out.next (wr' := w9) ((bel0 w5).drew.trans (hb9)); obtain ⟨u9, c9⟩ := own_cel HW9.b2 b hb24; have f9 := own_frozen HW9.b2 b; have l9 := (own_ltX HW9.b2).2; have neO : gO ≠ g2 := fun e => own_blk_ne HW9.b2 HW9.O (by decide) (by rw [e]; rfl); have neO2 : g2 ≠ gO := fun e => neO e.symm; replace HW9 := Lib.hid HW9))
            have HWp := HW9.out.put b (zer 4)
            clear c9 f9 fO1 lO1 HW HW9
            generalize w9.setCell ⟨g2, b, none⟩ (.string (zer 4)) = wp at HWp ⊢
            have HW := Lib.hid HWp
            clear HWp
            have fF1 := HW.out.F.get (x := .slice Ae s.2.2.length ce) 1 rfl
            have lF1 := HW.out.F.lt
            go_wp2_with fail
            refine (putBlock_spec Ae s.2.2.length ce s.2.2 HI.out.x i b hi12 hb24 _ (own_reads0 HW.out.b3)).mono ?_
            rintro e w6 ⟨v6, ok6, rfl, own6, hb6⟩
            have hlw := HW.out.bel.size
            replace HW := Lib.hid (HW.out.next hb6)
            obtain ⟨Ae6, ce6, rfl, _, _, _⟩ := own_vals own6
            have HWf := Lib.hid (HW.out.fil (own_more own6 hlw))
            clear fF1 lF1 own6 hb6
            have fF1 := HW.out.F.get (x := .slice Ae s.2.2.length ce) 1 rfl
            have fF1f := HW.out.F.frozen 1
            have lF1 := HW.out.F.lt
            go_wp2_with fail
            go_meet
            case rel => exact ⟨b, _, Ae6, ce6, rfl, HPk.out, HWf.out⟩
        · obtain ⟨b, hbe⟩ : ∃ b : Nat, blockP s.2.2 i = b := ⟨(blockP s.2.2 i).toNat, by omega⟩
          have HPk := Lib.hid (wrPick_old hbe)
          rw [hbe]
          have b2 : ¬ ((b : Int) < 0) := by omega
          clear hbe hb0 hbd
          go_wp2_with fail
          go_meet
          case rel => exact ⟨b, s, Ae, ce, rfl, HPk.out, HW.out⟩
      case rest =>
        clear HW
        obtain ⟨b, s1, Ae1, ce1, rfl, HPk, HW⟩ := hcut
        rename_i wc1
        obtain ⟨hb24, HI1⟩ := HI.out.pick HPk.out
        have hinn := Hin.out
        obtain ⟨fr, hfr⟩ : ∃ fr, wrFrom o i = fr := ⟨_, rfl⟩
        obtain ⟨to_, hto⟩ : ∃ t, wrTo (o + data.size) i = t := ⟨_, rfl⟩
        have hfr2 : fr = max o (i * 4) := by rw [← hfr]; rfl
        have hto2 : to_ = min (o + data.size) ((i + 1) * 4) := by rw [← hto]; rfl
        have wi14 : IntKind.i64.wrap ((i : Int) * 4 + 4) = (i : Int) * 4 + 4 := by rw [IntKind.wrap_i64]; omega
        have HM := Lib.hid (show _ ∧ _ ∧ _ ∧ _ from ⟨hfr, hto, hfr2, hto2⟩)
        clear hfr hto hfr2 hto2
        obtain ⟨wk, hwk⟩ : ∃ W, wc = W := ⟨_, rfl⟩
        rw [hwk] at HW ⊢
        clear hwk
        go_upto_if 104 with fail
        go_cut [17] from 55 to 137 (fun t wx => t = .int .i64 fr ∧ wx = wk)
        case first =>
          by_cases hlo : (i : Int) * 4 < (o : Int)
          · go_wp2_with fail
            go_meet
            case rel => exact ⟨by have hM := HM.out; rw [show (o : Int) = (fr : Int) by omega], rfl⟩
          · go_wp2_with fail
            go_meet
            case rel => exact ⟨by have hM := HM.out; rw [show (i : Int) * 4 = (fr : Int) by omega], rfl⟩
        case rest =>
        obtain ⟨rfl, rfl⟩ := hcut
        go_upto_if 111 with fail
        go_cut [18] from 55 to 137 (fun t wx => t = .int .i64 to_ ∧ wx = wc)
        case first =>
          by_cases hlo : (o : Int) + (data.size : Int) < (i : Int) * 4 + 4
          · go_wp2_with fail
            go_meet
            case rel => exact ⟨by have hM := HM.out; rw [show (o : Int) + (data.size : Int) = (to_ : Int) by omega], rfl⟩
          · go_wp2_with fail
            go_meet
            case rel => exact ⟨by have hM := HM.out; rw [show (i : Int) * 4 + 4 = (to_ : Int) by omega], rfl⟩
        case rest =>
        obtain ⟨rfl, rfl⟩ := hcut
        rename World => wd
        obtain ⟨hfr, hto, hfr2, hto2⟩ := HM.out
        obtain ⟨a, ha⟩ : ∃ a, fr - i * 4 = a := ⟨_, rfl⟩
        obtain ⟨u1, hu1⟩ : ∃ a, fr - o = a := ⟨_, rfl⟩
        obtain ⟨u2, hu2⟩ : ∃ a, to_ - o = a := ⟨_, rfl⟩
        have ia : (fr : Int) - (i : Int) * 4 = (a : Int) := by omega
        have iu1 : (fr : Int) - (o : Int) = (u1 : Int) := by omega
        have iu2 : (to_ : Int) - (o : Int) = (u2 : Int) := by omega
        have wa : IntKind.i64.wrap (a : Int) = (a : Int) := by rw [IntKind.wrap_i64]; omega
        have wu1 : IntKind.i64.wrap (u1 : Int) = (u1 : Int) := by rw [IntKind.wrap_i64]; omega
        have wu2 : IntKind.i64.wrap (u2 : Int) = (u2 : Int) := by rw [IntKind.wrap_i64]; omega
        have v0 : (0 : Int) ≤ (u1 : Int) := by omega
        have v1 : (u1 : Int) ≤ (u2 : Int) := by omega
        have v2 : (u2 : Int) ≤ (data.size : Int) := by omega
        have v1n : u1 ≤ u2 := by omega
        have v2n : u2 ≤ data.size := by omega
        have v4 : (0 : Int) ≤ (u2 : Int) := by omega
        have HD := Lib.hid (show wrD o data i = data.extract u1 u2 by unfold wrD; rw [hfr, hto, hu1, hu2])
        have HA := Lib.hid (show wrFrom o i - i * 4 = a by rw [hfr, ha])
        have hds := HI1.d
        have hbl : b < s1.2.1.length := by omega
        have ht4 : s1.2.1[b].size = 4 := HI1.z _ (List.getElem_mem hbl)
        have hax : a + (data.extract u1 u2).size ≤ 4 := by
          have h := wrD_size hinn.1 hinn.2
          rw [HA.out, HD.out] at h; exact h
        have HWB := Lib.hid (show wrB o data i s1.2.1 b = s1.2.1.set b (intoB s1.2.1[b] a (data.extract u1 u2)) by rw [wrB_get hbl, HA.out, HD.out])
        have HI2 := Lib.hid (HI1.wr hb24 hinn.1 hinn.2)
        have HL2 := Lib.hid (show wrLoop o data r (i + 1) (s1.1, wrB o data i s1.2.1 b, s1.2.2) = LP by rw [← HL.out, wrLoop_some HPk.out])
        have c7 := own_cellS HW.out.b2 hbl
        obtain ⟨t0, ht0⟩ : ∃ t, s1.2.1[b] = t := ⟨_, rfl⟩
        rw [ht0] at c7 ht4 HWB
        have HInto := Lib.hid (fun W => into_spec t0 (data.extract u1 u2) a ht4 hax W)
        have b0 : (0 : Int) ≤ (b : Int) := by omega
        have b1 : (b : Int) < 24 := by omega
        have HWd := Lib.hid (HW.out.next ((bel0 wd).drew))
        have fO1 := HW.out.O.get (x := .slice (some ⟨g2, 0, none⟩) 24 D3c) 1 rfl
        have fO1d := HWd.out.O.get (x := .slice (some ⟨g2, 0, none⟩) 24 D3c) 1 rfl
        have c7d : wd.drew.cell? ⟨g2, b, none⟩ = some (.string t0) := c7
        have lO1 := HWd.out.O.lt
        clear hinn hfr hto hfr2 hto2 ha hu1 hu2 ht0
        go_upto_region 25 with fail
        refine wp_region_held_drew (S := fun w' => w'.cell? ⟨gO, 1, none⟩ = some (.slice (some ⟨g2, 0, none⟩) 24 D3c)) (by kernel_rfl) fO1 (fun hHeld => ?_)
        refine wpAnyH_take (i := 0) (oi := ?oi6001) (v := ?v6001) ?hi6001 ?hs6001 ?hf6001 ?hr6001 ?hQ6001 ?hy6001 ?hS6001 ?hrest6001
        case hi6001 => (conv => lhs; simp only [List.getElem?_toArray, List.getElem?_cons_zero]); try exact rfl
        case hs6001 => kernel_rfl
        case hf6001 => kernel_rfl
        case hr6001 => kernel_rfl
        case hQ6001 => exact fun _ _ _ h => h
        case hS6001 => assumption
        case hy6001 => refine Or.inl ⟨by rfl, ?_⟩; intro w hSw; (try dsimp only at hSw); go_simp; (try with_reducible rfl)
        simp only [Act.put, List.setIfInBounds_toArray, List.set_cons_zero, List.set_cons_succ]
        refine wpAnyH_take (i := 1) (oi := ?oi6002) (v := ?v6002) ?hi6002 ?hs6002 ?hf6002 ?hr6002 ?hQ6002 ?hy6002 ?hS6002 ?hrest6002
        case hi6002 => (conv => lhs; simp only [List.getElem?_toArray, List.getElem?_cons_zero, List.getElem?_cons_succ]); try exact rfl
        case hs6002 => kernel_rfl
        case hf6002 => kernel_rfl
        case hr6002 => kernel_rfl
        case hQ6002 => exact fun _ _ _ h => h
        case hS6002 => assumption
        case hy6002 => refine Or.inl ⟨by rfl, ?_⟩; intro w hSw; (try dsimp only at hSw); go_simp; (try with_reducible rfl)
        simp only [Act.put, List.setIfInBounds_toArray, List.set_cons_zero, List.set_cons_succ]
        refine wpAnyH_take (i := 2) (oi := ?oi6003) (v := ?v6003) ?hi6003 ?hs6003 ?hf6003 ?hr6003 ?hQ6003 ?hy6003 ?hS6003 ?hrest6003
        case hi6003 => (conv => lhs; simp only [List.getElem?_toArray, List.getElem?_cons_zero, List.getElem?_cons_succ]); try exact rfl
        case hs6003 => kernel_rfl
        case hf6003 => kernel_rfl
        case hr6003 => kernel_rfl
        case hQ6003 => exact fun _ _ _ h => h
        case hS6003 => assumption
        case hy6003 => refine Or.inl ⟨by rfl, ?_⟩; intro w hSw; (try dsimp only at hSw); go_simp; (try with_reducible rfl)
        simp only [Act.put, List.setIfInBounds_toArray, List.set_cons_zero, List.set_cons_succ]
        refine wpAnyH_take (i := 3) (oi := ?oi6004) (v := ?v6004) ?hi6004 ?hs6004 ?hf6004 ?hr6004 ?hQ6004 ?hy6004 ?hS6004 ?hrest6004
        case hi6004 => (conv => lhs; simp only [List.getElem?_toArray, List.getElem?_cons_zero, List.getElem?_cons_succ]); try exact rfl
        case hs6004 => kernel_rfl
        case hf6004 => kernel_rfl
        case hr6004 => kernel_rfl
        case hQ6004 => exact fun _ _ _ h => h
        case hS6004 => assumption
        case hy6004 => refine Or.inl ⟨by rfl, ?_⟩; intro w hSw; (try dsimp only at hSw); go_simp; (try with_reducible rfl)
        simp only [Act.put, List.setIfInBounds_toArray, List.set_cons_zero, List.set_cons_succ]
        refine wpAnyH_take (i := 4) (oi := ?oi6005) (v := ?v6005) ?hi6005 ?hs6005 ?hf6005 ?hr6005 ?hQ6005 ?hy6005 ?hS6005 ?hrest6005
        case hi6005 => (conv => lhs; simp only [List.getElem?_toArray, List.getElem?_cons_zero, List.getElem?_cons_succ]); try exact rfl
        case hs6005 => kernel_rfl
        case hf6005 => kernel_rfl
        case hr6005 => kernel_rfl
        case hQ6005 => exact fun _ _ _ h => h
        case hS6005 => assumption
        case hy6005 => refine Or.inl ⟨by rfl, ?_⟩; intro w hSw; (try dsimp only at hSw); go_simp; (try with_reducible rfl)
        simp only [Act.put, List.setIfInBounds_toArray, List.set_cons_zero, List.set_cons_succ]
        refine wpAnyH_take (i := 5) (oi := ?oi6006) (v := ?v6006) ?hi6006 ?hs6006 ?hf6006 ?hr6006 ?hQ6006 ?hy6006 ?hS6006 ?hrest6006
        case hi6006 => (conv => lhs; simp only [List.getElem?_toArray, List.getElem?_cons_zero, List.getElem?_cons_succ]); try exact rfl
        case hs6006 => kernel_rfl
        case hf6006 => kernel_rfl
        case hr6006 => kernel_rfl
        case hQ6006 => exact fun _ _ _ h => h
        case hS6006 => assumption
        case hy6006 => refine Or.inl ⟨by rfl, ?_⟩; intro w hSw; (try dsimp only at hSw); go_simp; (try with_reducible rfl)
        simp only [Act.put, List.setIfInBounds_toArray, List.set_cons_zero, List.set_cons_succ]
        refine wpAnyH_take (i := 6) (oi := ?oi6007) (v := ?v6007) ?hi6007 ?hs6007 ?hf6007 ?hr6007 ?hQ6007 ?hy6007 ?hS6007 ?hrest6007
        case hi6007 => (conv => lhs; simp only [List.getElem?_toArray, List.getElem?_cons_zero, List.getElem?_cons_succ]); try exact rfl
        case hs6007 => kernel_rfl
        case hf6007 => kernel_rfl
        case hr6007 => kernel_rfl
        case hQ6007 => exact fun _ _ _ h => h
        case hS6007 => assumption
        case hy6007 => refine Or.inl ⟨by rfl, ?_⟩; intro w hSw; (try dsimp only at hSw); go_simp; (try with_reducible rfl)
        simp only [Act.put, List.setIfInBounds_toArray, List.set_cons_zero, List.set_cons_succ]
        refine wpAnyH_take (i := 8) (oi := ?oi6008) (v := ?v6008) ?hi6008 ?hs6008 ?hf6008 ?hr6008 ?hQ6008 ?hy6008 ?hS6008 ?hrest6008
        case hi6008 => (conv => lhs; simp only [List.getElem?_toArray, List.getElem?_cons_zero, List.getElem?_cons_succ]); try exact rfl
        case hs6008 => kernel_rfl
        case hf6008 => kernel_rfl
        case hr6008 => kernel_rfl
        case hQ6008 => exact fun _ _ _ h => h
        case hS6008 => assumption
        case hy6008 => refine Or.inl ⟨by rfl, ?_⟩; intro w hSw; (try dsimp only at hSw); go_simp; (try with_reducible rfl)
        simp only [Act.put, List.setIfInBounds_toArray, List.set_cons_zero, List.set_cons_succ]
        refine wpAnyH_take (i := 9) (oi := ?oi6009) (v := ?v6009) ?hi6009 ?hs6009 ?hf6009 ?hr6009 ?hQ6009 ?hy6009 ?hS6009 ?hrest6009
        case hi6009 => (conv => lhs; simp only [List.getElem?_toArray, List.getElem?_cons_zero, List.getElem?_cons_succ]); try exact rfl
        case hs6009 => kernel_rfl
        case hf6009 => kernel_rfl
        case hr6009 => kernel_rfl
        case hQ6009 => exact fun _ _ _ h => h
        case hS6009 => assumption
        case hy6009 => refine Or.inl ⟨by rfl, ?_⟩; intro w hSw; (try dsimp only at hSw); go_simp; (try with_reducible rfl)
        simp only [Act.put, List.setIfInBounds_toArray, List.set_cons_zero, List.set_cons_succ]
        refine wpAnyH_take (i := 10) (oi := ?oi6010) (v := ?v6010) ?hi6010 ?hs6010 ?hf6010 ?hr6010 ?hQ6010 ?hy6010 ?hS6010 ?hrest6010
        case hi6010 => (conv => lhs; simp only [List.getElem?_toArray, List.getElem?_cons_zero, List.getElem?_cons_succ]); try exact rfl
        case hs6010 => kernel_rfl
        case hf6010 => kernel_rfl
        case hr6010 => kernel_rfl
        case hQ6010 => exact fun _ _ _ h => h
        case hS6010 => assumption
        case hy6010 => refine Or.inl ⟨by rfl, ?_⟩; intro w hSw; (try dsimp only at hSw); go_simp; (try with_reducible rfl)
        simp only [Act.put, List.setIfInBounds_toArray, List.set_cons_zero, List.set_cons_succ]
        refine wpAnyH_take (i := 11) (oi := ?oi6011) (v := ?v6011) ?hi6011 ?hs6011 ?hf6011 ?hr6011 ?hQ6011 ?hy6011 ?hS6011 ?hrest6011
        case hi6011 => (conv => lhs; simp only [List.getElem?_toArray, List.getElem?_cons_zero, List.getElem?_cons_succ]); try exact rfl
        case hs6011 => kernel_rfl
        case hf6011 => kernel_rfl
        case hr6011 => kernel_rfl
        case hQ6011 => exact fun _ _ _ h => h
        case hS6011 => assumption
        case hy6011 => refine Or.inl ⟨by rfl, ?_⟩; intro w hSw; (try dsimp only at hSw); go_simp; (try with_reducible rfl)
        simp only [Act.put, List.setIfInBounds_toArray, List.set_cons_zero, List.set_cons_succ]
        refine wpAnyH_take (i := 12) (oi := ?oi6012) (v := ?v6012) ?hi6012 ?hs6012 ?hf6012 ?hr6012 ?hQ6012 ?hy6012 ?hS6012 ?hrest6012
        case hi6012 => (conv => lhs; simp only [List.getElem?_toArray, List.getElem?_cons_zero, List.getElem?_cons_succ]); try exact rfl
        case hs6012 => kernel_rfl
        case hf6012 => kernel_rfl
        case hr6012 => kernel_rfl
        case hQ6012 => exact fun _ _ _ h => h
        case hS6012 => assumption
        case hy6012 => refine Or.inl ⟨by rfl, ?_⟩; intro w hSw; (try dsimp only at hSw); go_simp; (try with_reducible rfl)
        simp only [Act.put, List.setIfInBounds_toArray, List.set_cons_zero, List.set_cons_succ]
        refine wpAnyH_take (i := 13) (oi := ?oi6013) (v := ?v6013) ?hi6013 ?hs6013 ?hf6013 ?hr6013 ?hQ6013 ?hy6013 ?hS6013 ?hrest6013
        case hi6013 => (conv => lhs; simp only [List.getElem?_toArray, List.getElem?_cons_zero, List.getElem?_cons_succ]); try exact rfl
        case hs6013 => kernel_rfl
        case hf6013 => kernel_rfl
        case hr6013 => kernel_rfl
        case hQ6013 => exact fun _ _ _ h => h
        case hS6013 => assumption
        case hy6013 => refine Or.inl ⟨by rfl, ?_⟩; intro w hSw; (try dsimp only at hSw); go_simp; (try with_reducible rfl)
        simp only [Act.put, List.setIfInBounds_toArray, List.set_cons_zero, List.set_cons_succ]
        refine wpAnyH_take (i := 14) (oi := ?oi6014) (v := ?v6014) ?hi6014 ?hs6014 ?hf6014 ?hr6014 ?hQ6014 ?hy6014 ?hS6014 ?hrest6014
        case hi6014 => (conv => lhs; simp only [List.getElem?_toArray, List.getElem?_cons_zero, List.getElem?_cons_succ]); try exact rfl
        case hs6014 => kernel_rfl
        case hf6014 => kernel_rfl
        case hr6014 => kernel_rfl
        case hQ6014 => exact fun _ _ _ h => h
        case hS6014 => assumption
        case hy6014 => refine Or.inl ⟨by rfl, ?_⟩; intro w hSw; (try dsimp only at hSw); go_simp; (try with_reducible rfl)
        simp only [Act.put, List.setIfInBounds_toArray, List.set_cons_zero, List.set_cons_succ]
        refine wpAnyH_take (i := 15) (oi := ?oi6015) (v := ?v6015) ?hi6015 ?hs6015 ?hf6015 ?hr6015 ?hQ6015 ?hy6015 ?hS6015 ?hrest6015
        case hi6015 => (conv => lhs; simp only [List.getElem?_toArray, List.getElem?_cons_zero, List.getElem?_cons_succ]); try exact rfl
        case hs6015 => kernel_rfl
        case hf6015 => kernel_rfl
        case hr6015 => kernel_rfl
        case hQ6015 => exact fun _ _ _ h => h
        case hS6015 => assumption
        case hy6015 => refine Or.inl ⟨by rfl, ?_⟩; intro w hSw; (try dsimp only at hSw); go_simp; (try with_reducible rfl)
        simp only [Act.put, List.setIfInBounds_toArray, List.set_cons_zero, List.set_cons_succ]
        refine wpAnyH_take (i := 16) (oi := ?oi6016) (v := ?v6016) ?hi6016 ?hs6016 ?hf6016 ?hr6016 ?hQ6016 ?hy6016 ?hS6016 ?hrest6016
        case hi6016 => (conv => lhs; simp only [List.getElem?_toArray, List.getElem?_cons_zero, List.getElem?_cons_succ]); try exact rfl
        case hs6016 => kernel_rfl
        case hf6016 => kernel_rfl
        case hr6016 => kernel_rfl
        case hQ6016 => exact fun _ _ _ h => h
        case hS6016 => assumption
        case hy6016 => refine Or.inl ⟨by rfl, ?_⟩; intro w hSw; (try dsimp only at hSw); go_simp; (try with_reducible rfl)
        simp only [Act.put, List.setIfInBounds_toArray, List.set_cons_zero, List.set_cons_succ]
        refine wpAnyH_take (i := 17) (oi := ?oi6017) (v := ?v6017) ?hi6017 ?hs6017 ?hf6017 ?hr6017 ?hQ6017 ?hy6017 ?hS6017 ?hrest6017
        case hi6017 => (conv => lhs; simp only [List.getElem?_toArray, List.getElem?_cons_zero, List.getElem?_cons_succ]); try exact rfl
        case hs6017 => kernel_rfl
        case hf6017 => kernel_rfl
        case hr6017 => kernel_rfl
        case hQ6017 => exact fun _ _ _ h => h
        case hS6017 => assumption
        case hy6017 => refine Or.inl ⟨by rfl, ?_⟩; intro w hSw; (try dsimp only at hSw); go_simp; (try with_reducible rfl)
        simp only [Act.put, List.setIfInBounds_toArray, List.set_cons_zero, List.set_cons_succ]
        refine wpAnyH_take (i := 18) (oi := ?oi6018) (v := ?v6018) ?hi6018 ?hs6018 ?hf6018 ?hr6018 ?hQ6018 ?hy6018 ?hS6018 ?hrest6018
        case hi6018 => (conv => lhs; simp only [List.getElem?_toArray, List.getElem?_cons_zero, List.getElem?_cons_succ]); try exact rfl
        case hs6018 => kernel_rfl
        case hf6018 => kernel_rfl
        case hr6018 => kernel_rfl
        case hQ6018 => exact fun _ _ _ h => h
        case hS6018 => assumption
        case hy6018 => refine Or.inl ⟨by rfl, ?_⟩; intro w hSw; (try dsimp only at hSw); go_simp; (try with_reducible rfl)
        simp only [Act.put, List.setIfInBounds_toArray, List.set_cons_zero, List.set_cons_succ]
        refine wpAnyH_take (i := 19) (oi := ?oi6019) (v := ?v6019) ?hi6019 ?hs6019 ?hf6019 ?hr6019 ?hQ6019 ?hy6019 ?hS6019 ?hrest6019
        case hi6019 => (conv => lhs; simp only [List.getElem?_toArray, List.getElem?_cons_zero, List.getElem?_cons_succ]); try exact rfl
        case hs6019 => kernel_rfl
        case hf6019 => kernel_rfl
        case hr6019 => kernel_rfl
        case hQ6019 => exact fun _ _ _ h => h
        case hS6019 => assumption
        case hy6019 => refine Or.inl ⟨by rfl, ?_⟩; intro w hSw; (try dsimp only at hSw); go_simp; (try with_reducible rfl)
        simp only [Act.put, List.setIfInBounds_toArray, List.set_cons_zero, List.set_cons_succ]
        refine wpAnyH_ready (rs := [7]) (by kernel_rfl) (by simp) ?_
        refine AllReadyH.cons (o := ?oi6020) ?hi6020 (fun K hK => ?_) AllReadyH.nil
        case hi6020 => (conv => lhs; simp only [List.getElem?_toArray, List.getElem?_cons_zero, List.getElem?_cons_succ]); try exact rfl
        go_simp
        refine hK.out _ _ fO1d (fun hHeld6020 => ?_)
        clear hK K
        try simp only [Act.put, List.setIfInBounds_toArray, List.set_cons_zero, List.set_cons_succ]
        refine wpAnyH_ready (rs := [20]) (by kernel_rfl) (by simp) ?_
        refine AllReadyH.cons (o := ?oi6021) ?hi6021 (fun K hK => ?_) AllReadyH.nil
        case hi6021 => (conv => lhs; simp only [List.getElem?_toArray, List.getElem?_cons_zero, List.getElem?_cons_succ]); try exact rfl
        go_simp
        go_at_call 26
        refine (HInto.out _).mono ?_
        rintro e w7 ⟨rfl, hb7⟩
        have HW7 := HWd.out.next hb7
        obtain ⟨u9, c9⟩ := own_cel HW7.b2 b hb24
        have f9 := own_frozen HW7.b2 b
        have l9 := (own_ltX HW7.b2).2
        have neO : gO ≠ g2 := fun e => own_blk_ne HW7.b2 HW7.O (by decide) (by rw [e]; rfl)
        have O7 := HW7.O.get (x := .slice (some ⟨g2, 0, none⟩) 24 D3c) 1 rfl
        replace HW7 := Lib.hid HW7
        refine hK.out _ _ O7 (fun hHeld6021 => ?_)
        clear hK K
        try simp only [Act.put, List.setIfInBounds_toArray, List.set_cons_zero, List.set_cons_succ]
        refine wpAnyH_take (i := 21) (oi := ?oi6022) (v := ?v6022) ?hi6022 ?hs6022 ?hf6022 ?hr6022 ?hQ6022 ?hy6022 ?hS6022 ?hrest6022
        case hi6022 => (conv => lhs; simp only [List.getElem?_toArray, List.getElem?_cons_zero, List.getElem?_cons_succ]); try exact rfl
        case hs6022 => kernel_rfl
        case hf6022 => kernel_rfl
        case hr6022 => kernel_rfl
        case hQ6022 => exact fun _ _ _ h => h
        case hS6022 => assumption
        case hy6022 => refine Or.inl ⟨by rfl, ?_⟩; intro w hSw; (try dsimp only at hSw); go_simp; (try with_reducible rfl)
        simp only [Act.put, List.setIfInBounds_toArray, List.set_cons_zero, List.set_cons_succ]
        refine wpAnyH_ready (rs := [22]) (by kernel_rfl) (by simp) ?_
        refine AllReadyH.cons (o := ?oi6023) ?hi6023 (fun K hK => ?_) AllReadyH.nil
        case hi6023 => (conv => lhs; simp only [List.getElem?_toArray, List.getElem?_cons_zero, List.getElem?_cons_succ]); try exact rfl
        go_simp
        refine hK.out _ _ (by exact (World.cell?_setCell_other _ _ _ _ (fun e => neO (congrArg Addr.block e).symm)).trans O7) (fun hHeld6023 => ?_)
        clear hK K
        try simp only [Act.put, List.setIfInBounds_toArray, List.set_cons_zero, List.set_cons_succ]
        refine wpAnyH_done (by kernel_rfl) ?_ _
        have HWp := HW7.out.put b (intoB t0 a (data.extract u1 u2))
        clear c9 f9 l9 O7 c7 c7d fO1 fO1d lO1 HW HWd HW7 neO hds ht4 hax
        generalize w7.setCell ⟨g2, b, none⟩ (.string (intoB t0 a (data.extract u1 u2))) = wp at HWp ⊢
        have HW8 := Lib.hid (show WrW w wp #[.slice A1 24 c1, .slice A2 24 c2] #[.int .i64 sz, .slice A3 n3 c3] gO gF g1 D2c g2 D3c sz Ae1 ce1 (s1.1, wrB o data i s1.2.1 b, s1.2.2) by rw [HWB.out]; exact HWp)
        clear HWp ia iu1 iu2 wa wu1 wu2 v0 v1 v2 v1n v2n v4 wi4 wi14
        go_wp2
        first
          | exact ⟨⟨i + 1, r, _, Ae1, ce1, by first | rfl | go_num, by omega, by omega, HL2.out, HI2.out, HW8.out⟩, by simp [intOf]; omega⟩
          | (go_roundw; case rel => exact ⟨i + 1, r, _, Ae1, ce1, by first | rfl | go_num, by omega, by omega, HL2.out, HI2.out, HW8.out⟩; case measure => (simp [intOf]; omega))
    · obtain rfl : rem = 0 := by omega
      have q1 : ¬ ((i : Int) * 4 < (o : Int) + (data.size : Int)) := by omega
      obtain ⟨Z, hZ⟩ : ∃ Z, max F.sz ((o : Int) + (data.size : Int)) = Z := ⟨_, rfl⟩
      have HPe := Lib.hid (show (⟨s.1, s.2.1⟩ : StoD) = S' ∧ (⟨Z, s.2.2⟩ : FilD) = F' ∧ true = ok by
        have h := HP2.out
        rw [HLoop.out, ← HL.out] at h
        simp only [wrLoop, wrRes, Prod.mk.injEq] at h
        rw [hZ] at h
        exact h)
      have lO := HW.out.lO
      have lFF := HW.out.lF
      have f0 := HW.out.F.get (x := .int .i64 sz) 0 rfl
      have f0f := HW.out.F.frozen 0
      have lF := HW.out.F.lt
      rw [Hsz.out] at hZ
      clear HqE2
      by_cases hgt : sz < (o : Int) + (data.size : Int)
      · have hgtb : decide (sz < (o : Int) + (data.size : Int)) = true := by simpa using hgt
        go_upto_region 28 with fail
        have HWz := HW.out.size_ ((o : Int) + (data.size : Int))
        clear f0 f0f lF HW
        generalize wr.setCell ⟨gF, 0, none⟩ (.int .i64 ((o : Int) + (data.size : Int))) = w9 at HWz ⊢
        obtain rfl : Z = (o : Int) + (data.size : Int) := by omega
        have HW := Lib.hid HWz
        clear HWz hZ
        refine wp_region_held_drew (S := fun w' => w'.cell? ⟨gO, 0, none⟩ = some (.slice (some ⟨g1, 0, none⟩) 24 D2c) ∧ w'.cell? ⟨gO, 1, none⟩ = some (.slice (some ⟨g2, 0, none⟩) 24 D3c) ∧ w'.cell? ⟨gF, 0, none⟩ = some (.int .i64 ((o : Int) + (data.size : Int))) ∧ w'.cell? ⟨gF, 1, none⟩ = some (.slice Ae s.2.2.length ce)) (by kernel_rfl) (by exact ⟨(HW.out.O).get 0 rfl, (HW.out.O).get 1 rfl, (HW.out.F).get 0 rfl, (HW.out.F).get 1 rfl⟩) (fun hHeld => ?_)
        clear hHeld
        refine foldH ?_
        intro r0 hr0
        have bw0 : Below w.heap.size w r0 := by rw [hr0]; exact (HW.out.bel).drew
        have kX0 : Blk r0 w.heap.size 31 #[.slice A1 24 c1, .slice A2 24 c2] := by rw [hr0]; exact HW.out.X.drew
        have kY0 : Blk r0 (w.heap.size + 1) 34 #[.int .i64 sz, .slice A3 n3 c3] := by rw [hr0]; exact HW.out.Y.drew
        have kRS0 : Blk r0 (w.heap.size + 2) 31 #[.slice none 0 0, .slice none 0 0] := by rw [hr0]; exact HW.out.RS.drew
        have kRF0 : Blk r0 (w.heap.size + 3) 34 #[.int .i64 0, .slice none 0 0] := by rw [hr0]; exact HW.out.RF.drew
        have kO0 : Blk r0 gO 31 #[.slice (some ⟨g1, 0, none⟩) 24 D2c, .slice (some ⟨g2, 0, none⟩) 24 D3c] := by rw [hr0]; exact HW.out.O.drew
        have kF0 : Blk r0 gF 34 #[.int .i64 ((o : Int) + (data.size : Int)), .slice Ae s.2.2.length ce] := by rw [hr0]; exact HW.out.F.drew
        have oD20 : r0.ownsRow w.heap.size 4 1 (.slice (some ⟨g1, 0, none⟩) 24 D2c) 24 (BS s.1) := by rw [hr0]; exact HW.out.b1
        have oD30 : r0.ownsRow w.heap.size 9 1 (.slice (some ⟨g2, 0, none⟩) 24 D3c) 24 (SS s.2.1) := by rw [hr0]; exact HW.out.b2
        have oD40 : r0.ownsRow w.heap.size 76 3 (.slice Ae s.2.2.length ce) s.2.2.length (XS s.2.2) := by rw [hr0]; exact HW.out.b3
        clear hr0
        refine wpAnyH_take (i := 0) (oi := ?oi8001) (v := ?v8001) ?hi8001 ?hs8001 ?hf8001 ?hr8001 ?hQ8001 ?hy8001 ?hS8001 ?hrest8001
        case hi8001 => (conv => lhs; simp only [List.getElem?_toArray, List.getElem?_cons_zero]); try exact rfl
        case hs8001 => kernel_rfl
        case hf8001 => kernel_rfl
        case hr8001 => kernel_rfl
        case hQ8001 => exact fun _ _ _ h => h
        case hS8001 => exact ⟨(kO0).get 0 rfl, (kO0).get 1 rfl, (kF0).get 0 rfl, (kF0).get 1 rfl⟩
        case hy8001 => refine Or.inl ⟨by rfl, ?_⟩; intro w hSw; (try dsimp only at hSw); go_simp; (try with_reducible rfl)
        simp only [Act.put, List.setIfInBounds_toArray, List.set_cons_zero, List.set_cons_succ]
        refine wpAnyH_take (i := 1) (oi := ?oi8002) (v := ?v8002) ?hi8002 ?hs8002 ?hf8002 ?hr8002 ?hQ8002 ?hy8002 ?hS8002 ?hrest8002
        case hi8002 => (conv => lhs; simp only [List.getElem?_toArray, List.getElem?_cons_zero, List.getElem?_cons_succ]); try exact rfl
        case hs8002 => kernel_rfl
        case hf8002 => kernel_rfl
        case hr8002 => kernel_rfl
        case hQ8002 => exact fun _ _ _ h => h
        case hS8002 => exact ⟨(kO0).get 0 rfl, (kO0).get 1 rfl, (kF0).get 0 rfl, (kF0).get 1 rfl⟩
        case hy8002 => refine Or.inl ⟨by rfl, ?_⟩; intro w hSw; (try dsimp only at hSw); go_simp; (try with_reducible rfl)
        simp only [Act.put, List.setIfInBounds_toArray, List.set_cons_zero, List.set_cons_succ]
        refine wpAnyH_ready (rs := [2]) (by kernel_rfl) (by simp) ?_
        refine AllReadyH.cons (o := ?oi8003) ?hi8003 (fun K hK => ?br8003) AllReadyH.nil
        case hi8003 => (conv => lhs; simp only [List.getElem?_toArray, List.getElem?_cons_zero, List.getElem?_cons_succ]); try exact rfl
        case br8003 =>
          have x1_0 := kRS0.get (x := .slice none 0 0) 0 rfl
          have f1_0 := kRS0.frozen 0
          have x1_1 := kRS0.get (x := .slice none 0 0) 1 rfl
          have f1_1 := kRS0.frozen 1
          have lE1 := kRS0.lt
          have neX1 : w.heap.size ≠ (w.heap.size + 2) := by have := kRS0.lt; have := kX0.lt; first | exact Blk.ne_ kX0 kRS0 (by decide) | omega
          have neY1 : (w.heap.size + 1) ≠ (w.heap.size + 2) := by have := kRS0.lt; have := kY0.lt; first | exact Blk.ne_ kY0 kRS0 (by decide) | omega
          have neRF1 : (w.heap.size + 3) ≠ (w.heap.size + 2) := by have := kRS0.lt; have := kRF0.lt; first | exact Blk.ne_ kRF0 kRS0 (by decide) | omega
          have neO1 : gO ≠ (w.heap.size + 2) := by have := kRS0.lt; have := kO0.lt; first | exact Blk.ne_ kO0 kRS0 (by decide) | omega
          have neF1 : gF ≠ (w.heap.size + 2) := by have := kRS0.lt; have := kF0.lt; first | exact Blk.ne_ kF0 kRS0 (by decide) | omega
          go_simp
          refine hK.out _ _ (by exact ⟨(((kO0).far (p := ⟨(w.heap.size + 2), 0, none⟩) neO1 (.slice (some ⟨g1, 0, none⟩) 24 D2c)).far (p := ⟨(w.heap.size + 2), 1, none⟩) neO1 (.slice (some ⟨g2, 0, none⟩) 24 D3c)).get 0 rfl, (((kO0).far (p := ⟨(w.heap.size + 2), 0, none⟩) neO1 (.slice (some ⟨g1, 0, none⟩) 24 D2c)).far (p := ⟨(w.heap.size + 2), 1, none⟩) neO1 (.slice (some ⟨g2, 0, none⟩) 24 D3c)).get 1 rfl, (((kF0).far (p := ⟨(w.heap.size + 2), 0, none⟩) neF1 (.slice (some ⟨g1, 0, none⟩) 24 D2c)).far (p := ⟨(w.heap.size + 2), 1, none⟩) neF1 (.slice (some ⟨g2, 0, none⟩) 24 D3c)).get 0 rfl, (((kF0).far (p := ⟨(w.heap.size + 2), 0, none⟩) neF1 (.slice (some ⟨g1, 0, none⟩) 24 D2c)).far (p := ⟨(w.heap.size + 2), 1, none⟩) neF1 (.slice (some ⟨g2, 0, none⟩) 24 D3c)).get 1 rfl⟩) (fun _ => ?_)
          clear hK K x1_0 f1_0 x1_1 f1_1 lE1
          refine foldH ?_
          intro r1 hr1
          have bw1 : Below w.heap.size w r1 := by rw [hr1]; exact belC (belC (bw0) _ 0 (by omega) (.slice (some ⟨g1, 0, none⟩) 24 D2c)) _ 1 (by omega) (.slice (some ⟨g2, 0, none⟩) 24 D3c)
          have kX1 : Blk r1 w.heap.size 31 #[.slice A1 24 c1, .slice A2 24 c2] := by rw [hr1]; exact ((kX0).far (p := ⟨(w.heap.size + 2), 0, none⟩) neX1 (.slice (some ⟨g1, 0, none⟩) 24 D2c)).far (p := ⟨(w.heap.size + 2), 1, none⟩) neX1 (.slice (some ⟨g2, 0, none⟩) 24 D3c)
          have kY1 : Blk r1 (w.heap.size + 1) 34 #[.int .i64 sz, .slice A3 n3 c3] := by rw [hr1]; exact ((kY0).far (p := ⟨(w.heap.size + 2), 0, none⟩) neY1 (.slice (some ⟨g1, 0, none⟩) 24 D2c)).far (p := ⟨(w.heap.size + 2), 1, none⟩) neY1 (.slice (some ⟨g2, 0, none⟩) 24 D3c)
          have kRS1 : Blk r1 (w.heap.size + 2) 31 #[.slice (some ⟨g1, 0, none⟩) 24 D2c, .slice (some ⟨g2, 0, none⟩) 24 D3c] := by rw [hr1]; exact ((kRS0.put 0 (.slice (some ⟨g1, 0, none⟩) 24 D2c) #[.slice (some ⟨g1, 0, none⟩) 24 D2c, .slice none 0 0] rfl).put 1 (.slice (some ⟨g2, 0, none⟩) 24 D3c) #[.slice (some ⟨g1, 0, none⟩) 24 D2c, .slice (some ⟨g2, 0, none⟩) 24 D3c] rfl)
          have kRF1 : Blk r1 (w.heap.size + 3) 34 #[.int .i64 0, .slice none 0 0] := by rw [hr1]; exact ((kRF0).far (p := ⟨(w.heap.size + 2), 0, none⟩) neRF1 (.slice (some ⟨g1, 0, none⟩) 24 D2c)).far (p := ⟨(w.heap.size + 2), 1, none⟩) neRF1 (.slice (some ⟨g2, 0, none⟩) 24 D3c)
          have kO1 : Blk r1 gO 31 #[.slice (some ⟨g1, 0, none⟩) 24 D2c, .slice (some ⟨g2, 0, none⟩) 24 D3c] := by rw [hr1]; exact ((kO0).far (p := ⟨(w.heap.size + 2), 0, none⟩) neO1 (.slice (some ⟨g1, 0, none⟩) 24 D2c)).far (p := ⟨(w.heap.size + 2), 1, none⟩) neO1 (.slice (some ⟨g2, 0, none⟩) 24 D3c)
          have kF1 : Blk r1 gF 34 #[.int .i64 ((o : Int) + (data.size : Int)), .slice Ae s.2.2.length ce] := by rw [hr1]; exact ((kF0).far (p := ⟨(w.heap.size + 2), 0, none⟩) neF1 (.slice (some ⟨g1, 0, none⟩) 24 D2c)).far (p := ⟨(w.heap.size + 2), 1, none⟩) neF1 (.slice (some ⟨g2, 0, none⟩) 24 D3c)
          have oD21 : r1.ownsRow w.heap.size 4 1 (.slice (some ⟨g1, 0, none⟩) 24 D2c) 24 (BS s.1) := by rw [hr1]; exact own_farT (own_farT (oD20) kRS0 (by decide) 0 (.slice (some ⟨g1, 0, none⟩) 24 D2c)) (kRS0.put 0 (.slice (some ⟨g1, 0, none⟩) 24 D2c) #[.slice (some ⟨g1, 0, none⟩) 24 D2c, .slice none 0 0] rfl) (by decide) 1 (.slice (some ⟨g2, 0, none⟩) 24 D3c)
          have oD31 : r1.ownsRow w.heap.size 9 1 (.slice (some ⟨g2, 0, none⟩) 24 D3c) 24 (SS s.2.1) := by rw [hr1]; exact own_farT (own_farT (oD30) kRS0 (by decide) 0 (.slice (some ⟨g1, 0, none⟩) 24 D2c)) (kRS0.put 0 (.slice (some ⟨g1, 0, none⟩) 24 D2c) #[.slice (some ⟨g1, 0, none⟩) 24 D2c, .slice none 0 0] rfl) (by decide) 1 (.slice (some ⟨g2, 0, none⟩) 24 D3c)
          have oD41 : r1.ownsRow w.heap.size 76 3 (.slice Ae s.2.2.length ce) s.2.2.length (XS s.2.2) := by rw [hr1]; exact own_farT (own_farT (oD40) kRS0 (by decide) 0 (.slice (some ⟨g1, 0, none⟩) 24 D2c)) (kRS0.put 0 (.slice (some ⟨g1, 0, none⟩) 24 D2c) #[.slice (some ⟨g1, 0, none⟩) 24 D2c, .slice none 0 0] rfl) (by decide) 1 (.slice (some ⟨g2, 0, none⟩) 24 D3c)
          clear hr1
          refine wpAnyH_ready (rs := [3]) (by kernel_rfl) (by simp) ?_
          refine AllReadyH.cons (o := ?oi8004) ?hi8004 (fun K hK => ?br8004) AllReadyH.nil
          case hi8004 => (conv => lhs; simp only [List.getElem?_toArray, List.getElem?_cons_zero, List.getElem?_cons_succ]); try exact rfl
          case br8004 =>
            have x2_0 := kRF1.get (x := .int .i64 0) 0 rfl
            have f2_0 := kRF1.frozen 0
            have x2_1 := kRF1.get (x := .slice none 0 0) 1 rfl
            have f2_1 := kRF1.frozen 1
            have lE2 := kRF1.lt
            have neX2 : w.heap.size ≠ (w.heap.size + 3) := by have := kRF1.lt; have := kX1.lt; first | exact Blk.ne_ kX1 kRF1 (by decide) | omega
            have neY2 : (w.heap.size + 1) ≠ (w.heap.size + 3) := by have := kRF1.lt; have := kY1.lt; first | exact Blk.ne_ kY1 kRF1 (by decide) | omega
            have neRS2 : (w.heap.size + 2) ≠ (w.heap.size + 3) := by have := kRF1.lt; have := kRS1.lt; first | exact Blk.ne_ kRS1 kRF1 (by decide) | omega
            have neO2 : gO ≠ (w.heap.size + 3) := by have := kRF1.lt; have := kO1.lt; first | exact Blk.ne_ kO1 kRF1 (by decide) | omega
            have neF2 : gF ≠ (w.heap.size + 3) := by have := kRF1.lt; have := kF1.lt; first | exact Blk.ne_ kF1 kRF1 (by decide) | omega
            go_simp
            refine hK.out _ _ (by exact ⟨(((kO1).far (p := ⟨(w.heap.size + 3), 0, none⟩) neO2 (.int .i64 ((o : Int) + (data.size : Int)))).far (p := ⟨(w.heap.size + 3), 1, none⟩) neO2 (.slice Ae s.2.2.length ce)).get 0 rfl, (((kO1).far (p := ⟨(w.heap.size + 3), 0, none⟩) neO2 (.int .i64 ((o : Int) + (data.size : Int)))).far (p := ⟨(w.heap.size + 3), 1, none⟩) neO2 (.slice Ae s.2.2.length ce)).get 1 rfl, (((kF1).far (p := ⟨(w.heap.size + 3), 0, none⟩) neF2 (.int .i64 ((o : Int) + (data.size : Int)))).far (p := ⟨(w.heap.size + 3), 1, none⟩) neF2 (.slice Ae s.2.2.length ce)).get 0 rfl, (((kF1).far (p := ⟨(w.heap.size + 3), 0, none⟩) neF2 (.int .i64 ((o : Int) + (data.size : Int)))).far (p := ⟨(w.heap.size + 3), 1, none⟩) neF2 (.slice Ae s.2.2.length ce)).get 1 rfl⟩) (fun _ => ?_)
            clear hK K x2_0 f2_0 x2_1 f2_1 lE2
            refine foldH ?_
            intro r2 hr2
            have bw2 : Below w.heap.size w r2 := by rw [hr2]; exact belC (belC (bw1) _ 0 (by omega) (.int .i64 ((o : Int) + (data.size : Int)))) _ 1 (by omega) (.slice Ae s.2.2.length ce)
            have kX2 : Blk r2 w.heap.size 31 #[.slice A1 24 c1, .slice A2 24 c2] := by rw [hr2]; exact ((kX1).far (p := ⟨(w.heap.size + 3), 0, none⟩) neX2 (.int .i64 ((o : Int) + (data.size : Int)))).far (p := ⟨(w.heap.size + 3), 1, none⟩) neX2 (.slice Ae s.2.2.length ce)
            have kY2 : Blk r2 (w.heap.size + 1) 34 #[.int .i64 sz, .slice A3 n3 c3] := by rw [hr2]; exact ((kY1).far (p := ⟨(w.heap.size + 3), 0, none⟩) neY2 (.int .i64 ((o : Int) + (data.size : Int)))).far (p := ⟨(w.heap.size + 3), 1, none⟩) neY2 (.slice Ae s.2.2.length ce)
            have kRS2 : Blk r2 (w.heap.size + 2) 31 #[.slice (some ⟨g1, 0, none⟩) 24 D2c, .slice (some ⟨g2, 0, none⟩) 24 D3c] := by rw [hr2]; exact ((kRS1).far (p := ⟨(w.heap.size + 3), 0, none⟩) neRS2 (.int .i64 ((o : Int) + (data.size : Int)))).far (p := ⟨(w.heap.size + 3), 1, none⟩) neRS2 (.slice Ae s.2.2.length ce)
            have kRF2 : Blk r2 (w.heap.size + 3) 34 #[.int .i64 ((o : Int) + (data.size : Int)), .slice Ae s.2.2.length ce] := by rw [hr2]; exact ((kRF1.put 0 (.int .i64 ((o : Int) + (data.size : Int))) #[.int .i64 ((o : Int) + (data.size : Int)), .slice none 0 0] rfl).put 1 (.slice Ae s.2.2.length ce) #[.int .i64 ((o : Int) + (data.size : Int)), .slice Ae s.2.2.length ce] rfl)
            have kO2 : Blk r2 gO 31 #[.slice (some ⟨g1, 0, none⟩) 24 D2c, .slice (some ⟨g2, 0, none⟩) 24 D3c] := by rw [hr2]; exact ((kO1).far (p := ⟨(w.heap.size + 3), 0, none⟩) neO2 (.int .i64 ((o : Int) + (data.size : Int)))).far (p := ⟨(w.heap.size + 3), 1, none⟩) neO2 (.slice Ae s.2.2.length ce)
            have kF2 : Blk r2 gF 34 #[.int .i64 ((o : Int) + (data.size : Int)), .slice Ae s.2.2.length ce] := by rw [hr2]; exact ((kF1).far (p := ⟨(w.heap.size + 3), 0, none⟩) neF2 (.int .i64 ((o : Int) + (data.size : Int)))).far (p := ⟨(w.heap.size + 3), 1, none⟩) neF2 (.slice Ae s.2.2.length ce)
            have oD22 : r2.ownsRow w.heap.size 4 1 (.slice (some ⟨g1, 0, none⟩) 24 D2c) 24 (BS s.1) := by rw [hr2]; exact own_farT (own_farT (oD21) kRF1 (by decide) 0 (.int .i64 ((o : Int) + (data.size : Int)))) (kRF1.put 0 (.int .i64 ((o : Int) + (data.size : Int))) #[.int .i64 ((o : Int) + (data.size : Int)), .slice none 0 0] rfl) (by decide) 1 (.slice Ae s.2.2.length ce)
            have oD32 : r2.ownsRow w.heap.size 9 1 (.slice (some ⟨g2, 0, none⟩) 24 D3c) 24 (SS s.2.1) := by rw [hr2]; exact own_farT (own_farT (oD31) kRF1 (by decide) 0 (.int .i64 ((o : Int) + (data.size : Int)))) (kRF1.put 0 (.int .i64 ((o : Int) + (data.size : Int))) #[.int .i64 ((o : Int) + (data.size : Int)), .slice none 0 0] rfl) (by decide) 1 (.slice Ae s.2.2.length ce)
            have oD42 : r2.ownsRow w.heap.size 76 3 (.slice Ae s.2.2.length ce) s.2.2.length (XS s.2.2) := by rw [hr2]; exact own_farT (own_farT (oD41) kRF1 (by decide) 0 (.int .i64 ((o : Int) + (data.size : Int)))) (kRF1.put 0 (.int .i64 ((o : Int) + (data.size : Int))) #[.int .i64 ((o : Int) + (data.size : Int)), .slice none 0 0] rfl) (by decide) 1 (.slice Ae s.2.2.length ce)
            clear hr2
            refine wpAnyH_take (i := 4) (oi := ?oi8005) (v := ?v8005) ?hi8005 ?hs8005 ?hf8005 ?hr8005 ?hQ8005 ?hy8005 ?hS8005 ?hrest8005
            case hi8005 => (conv => lhs; simp only [List.getElem?_toArray, List.getElem?_cons_zero, List.getElem?_cons_succ]); try exact rfl
            case hs8005 => kernel_rfl
            case hf8005 => kernel_rfl
            case hr8005 => kernel_rfl
            case hQ8005 => exact fun _ _ _ h => h
            case hS8005 => exact ⟨(kO2).get 0 rfl, (kO2).get 1 rfl, (kF2).get 0 rfl, (kF2).get 1 rfl⟩
            case hy8005 => refine Or.inl ⟨by rfl, ?_⟩; intro w hSw; (try dsimp only at hSw); go_simp; (try with_reducible rfl)
            simp only [Act.put, List.setIfInBounds_toArray, List.set_cons_zero, List.set_cons_succ]
            refine wpAnyH_done (by kernel_rfl) ?_ _
            have r0f := kRS2.get (x := .slice (some ⟨g1, 0, none⟩) 24 D2c) 0 rfl
            have r1f := kRS2.get (x := .slice (some ⟨g2, 0, none⟩) 24 D3c) 1 rfl
            have r2f := kRF2.get (x := .int .i64 ((o : Int) + (data.size : Int))) 0 rfl
            have r3f := kRF2.get (x := .slice Ae s.2.2.length ce) 1 rfl
            have OO1 := Lib.hid (own_eqn oD22 HI.out.b.symm)
            have OO2 := Lib.hid (own_eqn oD32 HI.out.d.symm)
            have OO3 := Lib.hid (oD42)
            have lF1 := kRS2.lt
            have lF2 := kRF2.lt
            have BE := bw2
            clear kX2 kY2 kRS2 kRF2 kO2 kF2 oD22 oD32 oD42
            go_wp2
            obtain ⟨rfl, rfl, rfl⟩ := HPe.out
            exact bodyPost_ret (v := .tuple #[.agg #[.slice (some ⟨g1, 0, none⟩) 24 D2c, .slice (some ⟨g2, 0, none⟩) 24 D3c], .agg #[.int .i64 ((o : Int) + (data.size : Int)), .slice Ae s.2.2.length ce], .bool true]) (by simp [results, Try.results6, go_sem, r0f, r1f, r2f, r3f]) rfl (wrPost_of (rfl) OO1.out OO2.out OO3.out BE)
      · have hgtb : decide (sz < (o : Int) + (data.size : Int)) = false := by simpa using hgt
        go_upto_region 28 with fail
        obtain rfl : sz = Z := by omega
        clear f0 f0f lF hZ
        rename World => w9
        refine wp_region_held_drew (S := fun w' => w'.cell? ⟨gO, 0, none⟩ = some (.slice (some ⟨g1, 0, none⟩) 24 D2c) ∧ w'.cell? ⟨gO, 1, none⟩ = some (.slice (some ⟨g2, 0, none⟩) 24 D3c) ∧ w'.cell? ⟨gF, 0, none⟩ = some (.int .i64 sz) ∧ w'.cell? ⟨gF, 1, none⟩ = some (.slice Ae s.2.2.length ce)) (by kernel_rfl) (by exact ⟨(HW.out.O).get 0 rfl, (HW.out.O).get 1 rfl, (HW.out.F).get 0 rfl, (HW.out.F).get 1 rfl⟩) (fun hHeld => ?_)
        clear hHeld
        refine foldH ?_
        intro r0 hr0
        have bw0 : Below w.heap.size w r0 := by rw [hr0]; exact (HW.out.bel).drew
        have kX0 : Blk r0 w.heap.size 31 #[.slice A1 24 c1, .slice A2 24 c2] := by rw [hr0]; exact HW.out.X.drew
        have kY0 : Blk r0 (w.heap.size + 1) 34 #[.int .i64 sz, .slice A3 n3 c3] := by rw [hr0]; exact HW.out.Y.drew
        have kRS0 : Blk r0 (w.heap.size + 2) 31 #[.slice none 0 0, .slice none 0 0] := by rw [hr0]; exact HW.out.RS.drew
        have kRF0 : Blk r0 (w.heap.size + 3) 34 #[.int .i64 0, .slice none 0 0] := by rw [hr0]; exact HW.out.RF.drew
        have kO0 : Blk r0 gO 31 #[.slice (some ⟨g1, 0, none⟩) 24 D2c, .slice (some ⟨g2, 0, none⟩) 24 D3c] := by rw [hr0]; exact HW.out.O.drew
        have kF0 : Blk r0 gF 34 #[.int .i64 sz, .slice Ae s.2.2.length ce] := by rw [hr0]; exact HW.out.F.drew
        have oD20 : r0.ownsRow w.heap.size 4 1 (.slice (some ⟨g1, 0, none⟩) 24 D2c) 24 (BS s.1) := by rw [hr0]; exact HW.out.b1
        have oD30 : r0.ownsRow w.heap.size 9 1 (.slice (some ⟨g2, 0, none⟩) 24 D3c) 24 (SS s.2.1) := by rw [hr0]; exact HW.out.b2
        have oD40 : r0.ownsRow w.heap.size 76 3 (.slice Ae s.2.2.length ce) s.2.2.length (XS s.2.2) := by rw [hr0]; exact HW.out.b3
        clear hr0
        refine wpAnyH_take (i := 0) (oi := ?oi9001) (v := ?v9001) ?hi9001 ?hs9001 ?hf9001 ?hr9001 ?hQ9001 ?hy9001 ?hS9001 ?hrest9001
        case hi9001 => (conv => lhs; simp only [List.getElem?_toArray, List.getElem?_cons_zero]); try exact rfl
        case hs9001 => kernel_rfl
        case hf9001 => kernel_rfl
        case hr9001 => kernel_rfl
        case hQ9001 => exact fun _ _ _ h => h
        case hS9001 => exact ⟨(kO0).get 0 rfl, (kO0).get 1 rfl, (kF0).get 0 rfl, (kF0).get 1 rfl⟩
        case hy9001 => refine Or.inl ⟨by rfl, ?_⟩; intro w hSw; (try dsimp only at hSw); go_simp; (try with_reducible rfl)
        simp only [Act.put, List.setIfInBounds_toArray, List.set_cons_zero, List.set_cons_succ]
        refine wpAnyH_take (i := 1) (oi := ?oi9002) (v := ?v9002) ?hi9002 ?hs9002 ?hf9002 ?hr9002 ?hQ9002 ?hy9002 ?hS9002 ?hrest9002
        case hi9002 => (conv => lhs; simp only [List.getElem?_toArray, List.getElem?_cons_zero, List.getElem?_cons_succ]); try exact rfl
        case hs9002 => kernel_rfl
        case hf9002 => kernel_rfl
        case hr9002 => kernel_rfl
        case hQ9002 => exact fun _ _ _ h => h
        case hS9002 => exact ⟨(kO0).get 0 rfl, (kO0).get 1 rfl, (kF0).get 0 rfl, (kF0).get 1 rfl⟩
        case hy9002 => refine Or.inl ⟨by rfl, ?_⟩; intro w hSw; (try dsimp only at hSw); go_simp; (try with_reducible rfl)
        simp only [Act.put, List.setIfInBounds_toArray, List.set_cons_zero, List.set_cons_succ]
        refine wpAnyH_ready (rs := [2]) (by kernel_rfl) (by simp) ?_
        refine AllReadyH.cons (o := ?oi9003) ?hi9003 (fun K hK => ?br9003) AllReadyH.nil
        case hi9003 => (conv => lhs; simp only [List.getElem?_toArray, List.getElem?_cons_zero, List.getElem?_cons_succ]); try exact rfl
        case br9003 =>
          have x1_0 := kRS0.get (x := .slice none 0 0) 0 rfl
          have f1_0 := kRS0.frozen 0
          have x1_1 := kRS0.get (x := .slice none 0 0) 1 rfl
          have f1_1 := kRS0.frozen 1
          have lE1 := kRS0.lt
          have neX1 : w.heap.size ≠ (w.heap.size + 2) := by have := kRS0.lt; have := kX0.lt; first | exact Blk.ne_ kX0 kRS0 (by decide) | omega
          have neY1 : (w.heap.size + 1) ≠ (w.heap.size + 2) := by have := kRS0.lt; have := kY0.lt; first | exact Blk.ne_ kY0 kRS0 (by decide) | omega
          have neRF1 : (w.heap.size + 3) ≠ (w.heap.size + 2) := by have := kRS0.lt; have := kRF0.lt; first | exact Blk.ne_ kRF0 kRS0 (by decide) | omega
          have neO1 : gO ≠ (w.heap.size + 2) := by have := kRS0.lt; have := kO0.lt; first | exact Blk.ne_ kO0 kRS0 (by decide) | omega
          have neF1 : gF ≠ (w.heap.size + 2) := by have := kRS0.lt; have := kF0.lt; first | exact Blk.ne_ kF0 kRS0 (by decide) | omega
          go_simp
          refine hK.out _ _ (by exact ⟨(((kO0).far (p := ⟨(w.heap.size + 2), 0, none⟩) neO1 (.slice (some ⟨g1, 0, none⟩) 24 D2c)).far (p := ⟨(w.heap.size + 2), 1, none⟩) neO1 (.slice (some ⟨g2, 0, none⟩) 24 D3c)).get 0 rfl, (((kO0).far (p := ⟨(w.heap.size + 2), 0, none⟩) neO1 (.slice (some ⟨g1, 0, none⟩) 24 D2c)).far (p := ⟨(w.heap.size + 2), 1, none⟩) neO1 (.slice (some ⟨g2, 0, none⟩) 24 D3c)).get 1 rfl, (((kF0).far (p := ⟨(w.heap.size + 2), 0, none⟩) neF1 (.slice (some ⟨g1, 0, none⟩) 24 D2c)).far (p := ⟨(w.heap.size + 2), 1, none⟩) neF1 (.slice (some ⟨g2, 0, none⟩) 24 D3c)).get 0 rfl, (((kF0).far (p := ⟨(w.heap.size + 2), 0, none⟩) neF1 (.slice (some ⟨g1, 0, none⟩) 24 D2c)).far (p := ⟨(w.heap.size + 2), 1, none⟩) neF1 (.slice (some ⟨g2, 0, none⟩) 24 D3c)).get 1 rfl⟩) (fun _ => ?_)
          clear hK K x1_0 f1_0 x1_1 f1_1 lE1
          refine foldH ?_
          intro r1 hr1
          have bw1 : Below w.heap.size w r1 := by rw [hr1]; exact belC (belC (bw0) _ 0 (by omega) (.slice (some ⟨g1, 0, none⟩) 24 D2c)) _ 1 (by omega) (.slice (some ⟨g2, 0, none⟩) 24 D3c)
          have kX1 : Blk r1 w.heap.size 31 #[.slice A1 24 c1, .slice A2 24 c2] := by rw [hr1]; exact ((kX0).far (p := ⟨(w.heap.size + 2), 0, none⟩) neX1 (.slice (some ⟨g1, 0, none⟩) 24 D2c)).far (p := ⟨(w.heap.size + 2), 1, none⟩) neX1 (.slice (some ⟨g2, 0, none⟩) 24 D3c)
          have kY1 : Blk r1 (w.heap.size + 1) 34 #[.int .i64 sz, .slice A3 n3 c3] := by rw [hr1]; exact ((kY0).far (p := ⟨(w.heap.size + 2), 0, none⟩) neY1 (.slice (some ⟨g1, 0, none⟩) 24 D2c)).far (p := ⟨(w.heap.size + 2), 1, none⟩) neY1 (.slice (some ⟨g2, 0, none⟩) 24 D3c)
          have kRS1 : Blk r1 (w.heap.size + 2) 31 #[.slice (some ⟨g1, 0, none⟩) 24 D2c, .slice (some ⟨g2, 0, none⟩) 24 D3c] := by rw [hr1]; exact ((kRS0.put 0 (.slice (some ⟨g1, 0, none⟩) 24 D2c) #[.slice (some ⟨g1, 0, none⟩) 24 D2c, .slice none 0 0] rfl).put 1 (.slice (some ⟨g2, 0, none⟩) 24 D3c) #[.slice (some ⟨g1, 0, none⟩) 24 D2c, .slice (some ⟨g2, 0, none⟩) 24 D3c] rfl)
          have kRF1 : Blk r1 (w.heap.size + 3) 34 #[.int .i64 0, .slice none 0 0] := by rw [hr1]; exact ((kRF0).far (p := ⟨(w.heap.size + 2), 0, none⟩) neRF1 (.slice (some ⟨g1, 0, none⟩) 24 D2c)).far (p := ⟨(w.heap.size + 2), 1, none⟩) neRF1 (.slice (some ⟨g2, 0, none⟩) 24 D3c)
          have kO1 : Blk r1 gO 31 #[.slice (some ⟨g1, 0, none⟩) 24 D2c, .slice (some ⟨g2, 0, none⟩) 24 D3c] := by rw [hr1]; exact ((kO0).far (p := ⟨(w.heap.size + 2), 0, none⟩) neO1 (.slice (some ⟨g1, 0, none⟩) 24 D2c)).far (p := ⟨(w.heap.size + 2), 1, none⟩) neO1 (.slice (some ⟨g2, 0, none⟩) 24 D3c)
          have kF1 : Blk r1 gF 34 #[.int .i64 sz, .slice Ae s.2.2.length ce] := by rw [hr1]; exact ((kF0).far (p := ⟨(w.heap.size + 2), 0, none⟩) neF1 (.slice (some ⟨g1, 0, none⟩) 24 D2c)).far (p := ⟨(w.heap.size + 2), 1, none⟩) neF1 (.slice (some ⟨g2, 0, none⟩) 24 D3c)
          have oD21 : r1.ownsRow w.heap.size 4 1 (.slice (some ⟨g1, 0, none⟩) 24 D2c) 24 (BS s.1) := by rw [hr1]; exact own_farT (own_farT (oD20) kRS0 (by decide) 0 (.slice (some ⟨g1, 0, none⟩) 24 D2c)) (kRS0.put 0 (.slice (some ⟨g1, 0, none⟩) 24 D2c) #[.slice (some ⟨g1, 0, none⟩) 24 D2c, .slice none 0 0] rfl) (by decide) 1 (.slice (some ⟨g2, 0, none⟩) 24 D3c)
          have oD31 : r1.ownsRow w.heap.size 9 1 (.slice (some ⟨g2, 0, none⟩) 24 D3c) 24 (SS s.2.1) := by rw [hr1]; exact own_farT (own_farT (oD30) kRS0 (by decide) 0 (.slice (some ⟨g1, 0, none⟩) 24 D2c)) (kRS0.put 0 (.slice (some ⟨g1, 0, none⟩) 24 D2c) #[.slice (some ⟨g1, 0, none⟩) 24 D2c, .slice none 0 0] rfl) (by decide) 1 (.slice (some ⟨g2, 0, none⟩) 24 D3c)
          have oD41 : r1.ownsRow w.heap.size 76 3 (.slice Ae s.2.2.length ce) s.2.2.length (XS s.2.2) := by rw [hr1]; exact own_farT (own_farT (oD40) kRS0 (by decide) 0 (.slice (some ⟨g1, 0, none⟩) 24 D2c)) (kRS0.put 0 (.slice (some ⟨g1, 0, none⟩) 24 D2c) #[.slice (some ⟨g1, 0, none⟩) 24 D2c, .slice none 0 0] rfl) (by decide) 1 (.slice (some ⟨g2, 0, none⟩) 24 D3c)
          clear hr1
          refine wpAnyH_ready (rs := [3]) (by kernel_rfl) (by simp) ?_
          refine AllReadyH.cons (o := ?oi9004) ?hi9004 (fun K hK => ?br9004) AllReadyH.nil
          case hi9004 => (conv => lhs; simp only [List.getElem?_toArray, List.getElem?_cons_zero, List.getElem?_cons_succ]); try exact rfl
          case br9004 =>
            have x2_0 := kRF1.get (x := .int .i64 0) 0 rfl
            have f2_0 := kRF1.frozen 0
            have x2_1 := kRF1.get (x := .slice none 0 0) 1 rfl
            have f2_1 := kRF1.frozen 1
            have lE2 := kRF1.lt
            have neX2 : w.heap.size ≠ (w.heap.size + 3) := by have := kRF1.lt; have := kX1.lt; first | exact Blk.ne_ kX1 kRF1 (by decide) | omega
            have neY2 : (w.heap.size + 1) ≠ (w.heap.size + 3) := by have := kRF1.lt; have := kY1.lt; first | exact Blk.ne_ kY1 kRF1 (by decide) | omega
            have neRS2 : (w.heap.size + 2) ≠ (w.heap.size + 3) := by have := kRF1.lt; have := kRS1.lt; first | exact Blk.ne_ kRS1 kRF1 (by decide) | omega
            have neO2 : gO ≠ (w.heap.size + 3) := by have := kRF1.lt; have := kO1.lt; first | exact Blk.ne_ kO1 kRF1 (by decide) | omega
            have neF2 : gF ≠ (w.heap.size + 3) := by have := kRF1.lt; have := kF1.lt; first | exact Blk.ne_ kF1 kRF1 (by decide) | omega
            go_simp
            refine hK.out _ _ (by exact ⟨(((kO1).far (p := ⟨(w.heap.size + 3), 0, none⟩) neO2 (.int .i64 sz)).far (p := ⟨(w.heap.size + 3), 1, none⟩) neO2 (.slice Ae s.2.2.length ce)).get 0 rfl, (((kO1).far (p := ⟨(w.heap.size + 3), 0, none⟩) neO2 (.int .i64 sz)).far (p := ⟨(w.heap.size + 3), 1, none⟩) neO2 (.slice Ae s.2.2.length ce)).get 1 rfl, (((kF1).far (p := ⟨(w.heap.size + 3), 0, none⟩) neF2 (.int .i64 sz)).far (p := ⟨(w.heap.size + 3), 1, none⟩) neF2 (.slice Ae s.2.2.length ce)).get 0 rfl, (((kF1).far (p := ⟨(w.heap.size + 3), 0, none⟩) neF2 (.int .i64 sz)).far (p := ⟨(w.heap.size + 3), 1, none⟩) neF2 (.slice Ae s.2.2.length ce)).get 1 rfl⟩) (fun _ => ?_)
            clear hK K x2_0 f2_0 x2_1 f2_1 lE2
            refine foldH ?_
            intro r2 hr2
            have bw2 : Below w.heap.size w r2 := by rw [hr2]; exact belC (belC (bw1) _ 0 (by omega) (.int .i64 sz)) _ 1 (by omega) (.slice Ae s.2.2.length ce)
            have kX2 : Blk r2 w.heap.size 31 #[.slice A1 24 c1, .slice A2 24 c2] := by rw [hr2]; exact ((kX1).far (p := ⟨(w.heap.size + 3), 0, none⟩) neX2 (.int .i64 sz)).far (p := ⟨(w.heap.size + 3), 1, none⟩) neX2 (.slice Ae s.2.2.length ce)
            have kY2 : Blk r2 (w.heap.size + 1) 34 #[.int .i64 sz, .slice A3 n3 c3] := by rw [hr2]; exact ((kY1).far (p := ⟨(w.heap.size + 3), 0, none⟩) neY2 (.int .i64 sz)).far (p := ⟨(w.heap.size + 3), 1, none⟩) neY2 (.slice Ae s.2.2.length ce)
            have kRS2 : Blk r2 (w.heap.size + 2) 31 #[.slice (some ⟨g1, 0, none⟩) 24 D2c, .slice (some ⟨g2, 0, none⟩) 24 D3c] := by rw [hr2]; exact ((kRS1).far (p := ⟨(w.heap.size + 3), 0, none⟩) neRS2 (.int .i64 sz)).far (p := ⟨(w.heap.size + 3), 1, none⟩) neRS2 (.slice Ae s.2.2.length ce)
            have kRF2 : Blk r2 (w.heap.size + 3) 34 #[.int .i64 sz, .slice Ae s.2.2.length ce] := by rw [hr2]; exact ((kRF1.put 0 (.int .i64 sz) #[.int .i64 sz, .slice none 0 0] rfl).put 1 (.slice Ae s.2.2.length ce) #[.int .i64 sz, .slice Ae s.2.2.length ce] rfl)
            have kO2 : Blk r2 gO 31 #[.slice (some ⟨g1, 0, none⟩) 24 D2c, .slice (some ⟨g2, 0, none⟩) 24 D3c] := by rw [hr2]; exact ((kO1).far (p := ⟨(w.heap.size + 3), 0, none⟩) neO2 (.int .i64 sz)).far (p := ⟨(w.heap.size + 3), 1, none⟩) neO2 (.slice Ae s.2.2.length ce)
            have kF2 : Blk r2 gF 34 #[.int .i64 sz, .slice Ae s.2.2.length ce] := by rw [hr2]; exact ((kF1).far (p := ⟨(w.heap.size + 3), 0, none⟩) neF2 (.int .i64 sz)).far (p := ⟨(w.heap.size + 3), 1, none⟩) neF2 (.slice Ae s.2.2.length ce)
            have oD22 : r2.ownsRow w.heap.size 4 1 (.slice (some ⟨g1, 0, none⟩) 24 D2c) 24 (BS s.1) := by rw [hr2]; exact own_farT (own_farT (oD21) kRF1 (by decide) 0 (.int .i64 sz)) (kRF1.put 0 (.int .i64 sz) #[.int .i64 sz, .slice none 0 0] rfl) (by decide) 1 (.slice Ae s.2.2.length ce)
            have oD32 : r2.ownsRow w.heap.size 9 1 (.slice (some ⟨g2, 0, none⟩) 24 D3c) 24 (SS s.2.1) := by rw [hr2]; exact own_farT (own_farT (oD31) kRF1 (by decide) 0 (.int .i64 sz)) (kRF1.put 0 (.int .i64 sz) #[.int .i64 sz, .slice none 0 0] rfl) (by decide) 1 (.slice Ae s.2.2.length ce)
            have oD42 : r2.ownsRow w.heap.size 76 3 (.slice Ae s.2.2.length ce) s.2.2.length (XS s.2.2) := by rw [hr2]; exact own_farT (own_farT (oD41) kRF1 (by decide) 0 (.int .i64 sz)) (kRF1.put 0 (.int .i64 sz) #[.int .i64 sz, .slice none 0 0] rfl) (by decide) 1 (.slice Ae s.2.2.length ce)
            clear hr2
            refine wpAnyH_take (i := 4) (oi := ?oi9005) (v := ?v9005) ?hi9005 ?hs9005 ?hf9005 ?hr9005 ?hQ9005 ?hy9005 ?hS9005 ?hrest9005
            case hi9005 => (conv => lhs; simp only [List.getElem?_toArray, List.getElem?_cons_zero, List.getElem?_cons_succ]); try exact rfl
            case hs9005 => kernel_rfl
            case hf9005 => kernel_rfl
            case hr9005 => kernel_rfl
            case hQ9005 => exact fun _ _ _ h => h
            case hS9005 => exact ⟨(kO2).get 0 rfl, (kO2).get 1 rfl, (kF2).get 0 rfl, (kF2).get 1 rfl⟩
            case hy9005 => refine Or.inl ⟨by rfl, ?_⟩; intro w hSw; (try dsimp only at hSw); go_simp; (try with_reducible rfl)
            simp only [Act.put, List.setIfInBounds_toArray, List.set_cons_zero, List.set_cons_succ]
            refine wpAnyH_done (by kernel_rfl) ?_ _
            have r0f := kRS2.get (x := .slice (some ⟨g1, 0, none⟩) 24 D2c) 0 rfl
            have r1f := kRS2.get (x := .slice (some ⟨g2, 0, none⟩) 24 D3c) 1 rfl
            have r2f := kRF2.get (x := .int .i64 sz) 0 rfl
            have r3f := kRF2.get (x := .slice Ae s.2.2.length ce) 1 rfl
            have OO1 := Lib.hid (own_eqn oD22 HI.out.b.symm)
            have OO2 := Lib.hid (own_eqn oD32 HI.out.d.symm)
            have OO3 := Lib.hid (oD42)
            have lF1 := kRS2.lt
            have lF2 := kRF2.lt
            have BE := bw2
            clear kX2 kY2 kRS2 kRF2 kO2 kF2 oD22 oD32 oD42
            go_wp2
            obtain ⟨rfl, rfl, rfl⟩ := HPe.out
            exact bodyPost_ret (v := .tuple #[.agg #[.slice (some ⟨g1, 0, none⟩) 24 D2c, .slice (some ⟨g2, 0, none⟩) 24 D3c], .agg #[.int .i64 sz, .slice Ae s.2.2.length ce], .bool true]) (by simp [results, Try.results6, go_sem, r0f, r1f, r2f, r3f]) rfl (wrPost_of (rfl) OO1.out OO2.out OO3.out BE)

end Go.Proofs.Ytajgenjfhcapjaa
