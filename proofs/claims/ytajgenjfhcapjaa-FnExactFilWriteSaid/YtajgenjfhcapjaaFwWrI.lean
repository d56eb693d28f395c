/- Writing into a file: the walk of the program. -/
import Derived.Test.YtajgenjfhcapjaaFwWrW
import Derived.StillTailTactics
import Derived.Deep.RegionHeld3
import Derived.Deep.Cut
import Derived.Deep.CutRange
namespace Go.Proofs.Ytajgenjfhcapjaa
open Go Go.RowKit

theorem empty_tests {s : ByteArray} (h : s.size = 0) : s.toList = [] ∧ s.toList.isEmpty = true ∧ (s.toList == []) = true := by
  have h0 : s.toList = [] := by rw [ByteArray.toList_eq]; exact List.eq_nil_of_length_eq_zero (by rw [size_list]; exact h)
  exact ⟨h0, by rw [h0]; rfl, by rw [h0]; rfl⟩
theorem full_tests {s : ByteArray} (h : ¬ s.size = 0) : ¬ (s.toList = []) ∧ s.toList.isEmpty = false ∧ (s.toList == []) = false := by
  have h0 : ¬ (s.toList = []) := fun e => h (by rw [ByteArray.toList_eq] at e; have := congrArg List.length e; rw [size_list] at this; simpa using this)
  exact ⟨h0, by cases hh : s.toList with | nil => exact absurd hh h0 | cons => rfl, by rw [beq_eq_false_iff_ne]; exact h0⟩

set_option maxRecDepth 100000 in
set_option maxHeartbeats 16000000 in
theorem filWrite_impl (v u : Value) (S : StoD) (F : FilD) (hS : StoSm S) (hF : F.xs.length ≤ 10000000) (off : Int) (data : ByteArray) (hd : data.size ≤ 9223372036854775807) {S' : StoD} {F' : FilD} {ok : Bool}
    (hP : writeP S F off data = (S', F', ok)) (w : World) (h : IsSto w v S) (h2 : IsFil w u F) :
    Calls Try.prog 9 #[v, u, .int .i64 off, .string data] w (WrPost w S' F' ok) := by
  obtain ⟨A1, c1, A2, c2, rfl, r1, r2⟩ := h
  obtain ⟨A3, c3, rfl, r3⟩ := h2
  obtain ⟨n1, hl1⟩ : ∃ n, S.bs.length = n := ⟨_, rfl⟩
  obtain ⟨n2, hl2⟩ : ∃ n, S.ds.length = n := ⟨_, rfl⟩
  obtain ⟨n3, hl3⟩ : ∃ n, F.xs.length = n := ⟨_, rfl⟩
  obtain ⟨sz, hsz⟩ : ∃ n, F.sz = n := ⟨_, rfl⟩
  have HSto := Lib.hid (show ∀ W, Below w.heap.size w W → IsSto W (.agg #[.slice A1 n1 c1, .slice A2 n2 c2]) S from fun W hb => ⟨A1, c1, A2, c2, by rw [hl1, hl2], r1.nxt hb, r2.nxt hb⟩)
  have HFil := Lib.hid (show ∀ W, Below w.heap.size w W → IsFil W (.agg #[.int .i64 sz, .slice A3 n3 c3]) F from fun W hb => ⟨A3, c3, by rw [hl3, hsz], r3.nxt hb⟩)
  have HS := Lib.hid hS
  have HF := Lib.hid hF
  have HP := Lib.hid hP
  have Hsz := Lib.hid hsz
  have Hl1 := Lib.hid hl1
  have Hl2 := Lib.hid hl2
  have Hl3 := Lib.hid hl3
  rw [hl1, hl2, hl3, hsz]
  clear r1 r2 r3 hl1 hl2 hl3 hsz hS hF hP
  obtain ⟨W1, hW1⟩ : ∃ W1, (((w.alloc (.cells #[.slice A1 n1 c1, .slice A2 n2 c2] 31)).alloc (.cells #[.int .i64 sz, .slice A3 n3 c3] 34)).alloc (.cells #[.slice none 0 0, .slice none 0 0] 31)).alloc (.cells #[.int .i64 0, .slice none 0 0] 34) = W1 := ⟨_, rfl⟩
  have X : Blk W1 w.heap.size 31 #[.slice A1 n1 c1, .slice A2 n2 c2] := by rw [← hW1]; exact (((Blk.new' _ _ _ _ rfl).alloc _).alloc _).alloc _
  have Y : Blk W1 (w.heap.size + 1) 34 #[.int .i64 sz, .slice A3 n3 c3] := by rw [← hW1]; exact ((Blk.new' _ _ _ _ (by simp)).alloc _).alloc _
  have RS : Blk W1 (w.heap.size + 2) 31 #[.slice none 0 0, .slice none 0 0] := by rw [← hW1]; exact (Blk.new' _ _ _ _ (by simp)).alloc _
  have RF : Blk W1 (w.heap.size + 3) 34 #[.int .i64 0, .slice none 0 0] := by rw [← hW1]; exact Blk.new' _ _ _ _ (by simp)
  have B1 : Below w.heap.size w W1 := by rw [← hW1]; exact belA (belA (belA (belA (bel0 w) _) _) _) _
  go_enter Try.func9, Try.ntmps9
  go_upto_region 1 with fail
  try rw [hW1]
  clear hW1
  have lX := X.lt
  have lY := Y.lt
  have l4 : w.heap.size + 4 ≤ W1.heap.size := RF.lt
  have HX := Lib.hid X
  have HY := Lib.hid Y
  have HRS := Lib.hid RS
  have HRF := Lib.hid RF
  clear X Y RS RF
  go_cut [11, 12] from 18 to 21 (fun p q wx => ∃ (gO gF : Nat) (D2 : Option Addr) (D2c : Nat) (D3 : Option Addr) (D3c : Nat) (D4 : Option Addr) (D4c : Nat), p = .pointer (some ⟨gO, 0, none⟩) ∧ q = .pointer (some ⟨gF, 0, none⟩) ∧ w.heap.size + 4 ≤ gO ∧ w.heap.size + 4 ≤ gF ∧
    Hid (Blk wx w.heap.size 31 #[.slice A1 n1 c1, .slice A2 n2 c2]) ∧ Hid (Blk wx (w.heap.size + 1) 34 #[.int .i64 sz, .slice A3 n3 c3]) ∧ Hid (Blk wx (w.heap.size + 2) 31 #[.slice none 0 0, .slice none 0 0]) ∧ Hid (Blk wx (w.heap.size + 3) 34 #[.int .i64 0, .slice none 0 0]) ∧
    Hid (Blk wx gO 31 #[.slice D2 n1 D2c, .slice D3 n2 D3c]) ∧ Hid (Blk wx gF 34 #[.int .i64 sz, .slice D4 n3 D4c]) ∧ Hid (wx.ownsRow w.heap.size 4 1 (.slice D2 n1 D2c) n1 (BS S.bs)) ∧ Hid (wx.ownsRow w.heap.size 9 1 (.slice D3 n2 D3c) n2 (SS S.ds)) ∧
    Hid (wx.ownsRow w.heap.size 76 3 (.slice D4 n3 D4c) n3 (XS F.xs)) ∧ Below w.heap.size w wx)
  case first => as_aux_lemma =>
    refine wp_region_held_drew (S := fun w' => w'.cell? ⟨w.heap.size, 0, none⟩ = some (.slice A1 n1 c1) ∧ w'.cell? ⟨w.heap.size, 1, none⟩ = some (.slice A2 n2 c2) ∧ w'.cell? ⟨(w.heap.size + 1), 0, none⟩ = some (.int .i64 sz) ∧ w'.cell? ⟨(w.heap.size + 1), 1, none⟩ = some (.slice A3 n3 c3)) (by kernel_rfl) (by exact ⟨(HX.out).get 0 rfl, (HX.out).get 1 rfl, (HY.out).get 0 rfl, (HY.out).get 1 rfl⟩) (fun hHeld => ?_)
    clear hHeld
    refine foldH ?_
    intro r0 hr0
    have bw0 : Below w.heap.size w r0 := by rw [hr0]; exact (B1).drew
    have kX0 : Blk r0 w.heap.size 31 #[.slice A1 n1 c1, .slice A2 n2 c2] := by rw [hr0]; exact HX.out.drew
    have kY0 : Blk r0 (w.heap.size + 1) 34 #[.int .i64 sz, .slice A3 n3 c3] := by rw [hr0]; exact HY.out.drew
    have kRS0 : Blk r0 (w.heap.size + 2) 31 #[.slice none 0 0, .slice none 0 0] := by rw [hr0]; exact HRS.out.drew
    have kRF0 : Blk r0 (w.heap.size + 3) 34 #[.int .i64 0, .slice none 0 0] := by rw [hr0]; exact HRF.out.drew
    clear hr0
    refine wpAnyH_take (i := 0) (oi := ?oi1) (v := ?v1) ?hi1 ?hs1 ?hf1 ?hr1 ?hQ1 ?hy1 ?hS1 ?hrest1
    case hi1 => (conv => lhs; simp only [List.getElem?_toArray, List.getElem?_cons_zero]); try exact rfl
    case hs1 => kernel_rfl
    case hf1 => kernel_rfl
    case hr1 => kernel_rfl
    case hQ1 => exact fun _ _ _ h => h
    case hS1 => exact ⟨(kX0).get 0 rfl, (kX0).get 1 rfl, (kY0).get 0 rfl, (kY0).get 1 rfl⟩
    case hy1 => refine Or.inl ⟨by rfl, ?_⟩; intro w hSw; (try dsimp only at hSw); go_simp; (try with_reducible rfl)
    simp only [Act.put, List.setIfInBounds_toArray, List.set_cons_zero, List.set_cons_succ]
    refine wpAnyH_take (i := 2) (oi := ?oi2) (v := ?v2) ?hi2 ?hs2 ?hf2 ?hr2 ?hQ2 ?hy2 ?hS2 ?hrest2
    case hi2 => (conv => lhs; simp only [List.getElem?_toArray, List.getElem?_cons_zero, List.getElem?_cons_succ]); try exact rfl
    case hs2 => kernel_rfl
    case hf2 => kernel_rfl
    case hr2 => kernel_rfl
    case hQ2 => exact fun _ _ _ h => h
    case hS2 => exact ⟨(kX0).get 0 rfl, (kX0).get 1 rfl, (kY0).get 0 rfl, (kY0).get 1 rfl⟩
    case hy2 => refine Or.inl ⟨by rfl, ?_⟩; intro w hSw; (try dsimp only at hSw); go_simp; (try with_reducible rfl)
    simp only [Act.put, List.setIfInBounds_toArray, List.set_cons_zero, List.set_cons_succ]
    refine wpAnyH_ready (rs := [1, 4, 5]) (by kernel_rfl) (by simp) ?_
    refine AllReadyH.cons (o := ?oi3) ?hi3 (fun K hK => ?br3) (AllReadyH.cons (o := ?oi4) ?hi4 (fun K hK => ?br4) (AllReadyH.cons (o := ?oi5) ?hi5 (fun K hK => ?br5) AllReadyH.nil))
    case hi3 => (conv => lhs; simp only [List.getElem?_toArray, List.getElem?_cons_zero, List.getElem?_cons_succ]); try exact rfl
    case hi4 => (conv => lhs; simp only [List.getElem?_toArray, List.getElem?_cons_zero, List.getElem?_cons_succ]); try exact rfl
    case hi5 => (conv => lhs; simp only [List.getElem?_toArray, List.getElem?_cons_zero, List.getElem?_cons_succ]); try exact rfl
    case br3 =>
      go_simp
      go_at_call 30
      refine (copyStore_impl _ S HS.out _ (HSto.out _ bw0)).mono ?_
      rintro e r1 ⟨_, rfl, hOS, hb1r⟩
      have bw1 : Below w.heap.size w r1 := bw0.trans (hb1r.mono bw0.size)
      have kX1 : Blk r1 w.heap.size 31 #[.slice A1 n1 c1, .slice A2 n2 c2] := kX0.below hb1r kX0.lt
      have kY1 : Blk r1 (w.heap.size + 1) 34 #[.int .i64 sz, .slice A3 n3 c3] := kY0.below hb1r kY0.lt
      have kRS1 : Blk r1 (w.heap.size + 2) 31 #[.slice none 0 0, .slice none 0 0] := kRS0.below hb1r kRS0.lt
      have kRF1 : Blk r1 (w.heap.size + 3) 34 #[.int .i64 0, .slice none 0 0] := kRF0.below hb1r kRF0.lt
      obtain ⟨_, _, rfl, oa, ob⟩ := hOS
      rw [Hl1.out] at oa
      rw [Hl2.out] at ob
      obtain ⟨D2, D2c, rfl, _, _, _⟩ := own_vals oa
      obtain ⟨D3, D3c, rfl, _, _, _⟩ := own_vals ob
      have oD21 := own_more oa bw0.size
      have oD31 := own_more ob bw0.size
      clear oa ob
      refine hK.out _ _ (by exact ⟨(kX1).get 0 rfl, (kX1).get 1 rfl, (kY1).get 0 rfl, (kY1).get 1 rfl⟩) (fun _ => ?_)
      clear hK K
      refine wpAnyH_ready (rs := [3, 4, 5]) (by kernel_rfl) (by simp) ?_
      refine AllReadyH.cons (o := ?oi6) ?hi6 (fun K hK => ?br6) (AllReadyH.cons (o := ?oi7) ?hi7 (fun K hK => ?br7) (AllReadyH.cons (o := ?oi8) ?hi8 (fun K hK => ?br8) AllReadyH.nil))
      case hi6 => (conv => lhs; simp only [List.getElem?_toArray, List.getElem?_cons_zero, List.getElem?_cons_succ]); try exact rfl
      case hi7 => (conv => lhs; simp only [List.getElem?_toArray, List.getElem?_cons_zero, List.getElem?_cons_succ]); try exact rfl
      case hi8 => (conv => lhs; simp only [List.getElem?_toArray, List.getElem?_cons_zero, List.getElem?_cons_succ]); try exact rfl
      case br6 =>
        go_simp
        go_at_call 31
        refine (copyFil_impl _ F HF.out _ (HFil.out _ bw1)).mono ?_
        rintro e r2 ⟨_, rfl, hOF, hb2r⟩
        have bw2 : Below w.heap.size w r2 := bw1.trans (hb2r.mono bw1.size)
        have kX2 : Blk r2 w.heap.size 31 #[.slice A1 n1 c1, .slice A2 n2 c2] := kX1.below hb2r kX1.lt
        have kY2 : Blk r2 (w.heap.size + 1) 34 #[.int .i64 sz, .slice A3 n3 c3] := kY1.below hb2r kY1.lt
        have kRS2 : Blk r2 (w.heap.size + 2) 31 #[.slice none 0 0, .slice none 0 0] := kRS1.below hb2r kRS1.lt
        have kRF2 : Blk r2 (w.heap.size + 3) 34 #[.int .i64 0, .slice none 0 0] := kRF1.below hb2r kRF1.lt
        have oD22 : r2.ownsRow w.heap.size 4 1 (.slice D2 n1 D2c) n1 (BS S.bs) := own_below oD21 hb2r (Nat.le_refl _)
        have oD32 : r2.ownsRow w.heap.size 9 1 (.slice D3 n2 D3c) n2 (SS S.ds) := own_below oD31 hb2r (Nat.le_refl _)
        obtain ⟨_, rfl, oa⟩ := hOF
        rw [Hl3.out] at oa
        rw [Hsz.out]
        obtain ⟨D4, D4c, rfl, _, _, _⟩ := own_vals oa
        have oD42 := own_more oa bw1.size
        clear oa
        refine hK.out _ _ (by exact ⟨(kX2).get 0 rfl, (kX2).get 1 rfl, (kY2).get 0 rfl, (kY2).get 1 rfl⟩) (fun _ => ?_)
        clear hK K
        refine wpAnyH_ready (rs := [4, 5]) (by kernel_rfl) (by simp) ?_
        refine AllReadyH.cons (o := ?oi9) ?hi9 (fun K hK => ?br9) (AllReadyH.cons (o := ?oi10) ?hi10 (fun K hK => ?br10) AllReadyH.nil)
        case hi9 => (conv => lhs; simp only [List.getElem?_toArray, List.getElem?_cons_zero, List.getElem?_cons_succ]); try exact rfl
        case hi10 => (conv => lhs; simp only [List.getElem?_toArray, List.getElem?_cons_zero, List.getElem?_cons_succ]); try exact rfl
        case br9 =>
          go_simp
          refine hK.out _ _ (by exact ⟨(kX2.alloc (.cells #[.slice none 0 0, .slice none 0 0] 31)).get 0 rfl, (kX2.alloc (.cells #[.slice none 0 0, .slice none 0 0] 31)).get 1 rfl, (kY2.alloc (.cells #[.slice none 0 0, .slice none 0 0] 31)).get 0 rfl, (kY2.alloc (.cells #[.slice none 0 0, .slice none 0 0] 31)).get 1 rfl⟩) (fun _ => ?_)
          clear hK K
          refine foldH ?_
          intro r3 hr3
          have bw3 : Below w.heap.size w r3 := by rw [hr3]; exact belA bw2 _
          have kX3 : Blk r3 w.heap.size 31 #[.slice A1 n1 c1, .slice A2 n2 c2] := by rw [hr3]; exact kX2.alloc _
          have kY3 : Blk r3 (w.heap.size + 1) 34 #[.int .i64 sz, .slice A3 n3 c3] := by rw [hr3]; exact kY2.alloc _
          have kRS3 : Blk r3 (w.heap.size + 2) 31 #[.slice none 0 0, .slice none 0 0] := by rw [hr3]; exact kRS2.alloc _
          have kRF3 : Blk r3 (w.heap.size + 3) 34 #[.int .i64 0, .slice none 0 0] := by rw [hr3]; exact kRF2.alloc _
          have oD23 : r3.ownsRow w.heap.size 4 1 (.slice D2 n1 D2c) n1 (BS S.bs) := by rw [hr3]; exact oD22.alloc _
          have oD33 : r3.ownsRow w.heap.size 9 1 (.slice D3 n2 D3c) n2 (SS S.ds) := by rw [hr3]; exact oD32.alloc _
          have oD43 : r3.ownsRow w.heap.size 76 3 (.slice D4 n3 D4c) n3 (XS F.xs) := by rw [hr3]; exact oD42.alloc _
          have kO3 : Blk r3 r2.heap.size 31 #[.slice none 0 0, .slice none 0 0] := by rw [hr3]; exact Blk.new' _ _ _ _ rfl
          have laO3 : w.heap.size ≤ r2.heap.size := bw2.size
          have lq3X : w.heap.size < r2.heap.size := kX2.lt
          have lq3Y : (w.heap.size + 1) < r2.heap.size := kY2.lt
          have lq3RS : (w.heap.size + 2) < r2.heap.size := kRS2.lt
          have lq3RF : (w.heap.size + 3) < r2.heap.size := kRF2.lt
          clear hr3
          refine wpAnyH_ready (rs := [5]) (by kernel_rfl) (by simp) ?_
          refine AllReadyH.cons (o := ?oi11) ?hi11 (fun K hK => ?br11) AllReadyH.nil
          case hi11 => (conv => lhs; simp only [List.getElem?_toArray, List.getElem?_cons_zero, List.getElem?_cons_succ]); try exact rfl
          case br11 =>
            go_simp
            refine hK.out _ _ (by exact ⟨(kX3.alloc (.cells #[.int .i64 0, .slice none 0 0] 34)).get 0 rfl, (kX3.alloc (.cells #[.int .i64 0, .slice none 0 0] 34)).get 1 rfl, (kY3.alloc (.cells #[.int .i64 0, .slice none 0 0] 34)).get 0 rfl, (kY3.alloc (.cells #[.int .i64 0, .slice none 0 0] 34)).get 1 rfl⟩) (fun _ => ?_)
            clear hK K
            refine foldH ?_
            intro r4 hr4
            have bw4 : Below w.heap.size w r4 := by rw [hr4]; exact belA bw3 _
            have kX4 : Blk r4 w.heap.size 31 #[.slice A1 n1 c1, .slice A2 n2 c2] := by rw [hr4]; exact kX3.alloc _
            have kY4 : Blk r4 (w.heap.size + 1) 34 #[.int .i64 sz, .slice A3 n3 c3] := by rw [hr4]; exact kY3.alloc _
            have kRS4 : Blk r4 (w.heap.size + 2) 31 #[.slice none 0 0, .slice none 0 0] := by rw [hr4]; exact kRS3.alloc _
            have kRF4 : Blk r4 (w.heap.size + 3) 34 #[.int .i64 0, .slice none 0 0] := by rw [hr4]; exact kRF3.alloc _
            have kO4 : Blk r4 r2.heap.size 31 #[.slice none 0 0, .slice none 0 0] := by rw [hr4]; exact kO3.alloc _
            have oD24 : r4.ownsRow w.heap.size 4 1 (.slice D2 n1 D2c) n1 (BS S.bs) := by rw [hr4]; exact oD23.alloc _
            have oD34 : r4.ownsRow w.heap.size 9 1 (.slice D3 n2 D3c) n2 (SS S.ds) := by rw [hr4]; exact oD33.alloc _
            have oD44 : r4.ownsRow w.heap.size 76 3 (.slice D4 n3 D4c) n3 (XS F.xs) := by rw [hr4]; exact oD43.alloc _
            have kF4 : Blk r4 r3.heap.size 34 #[.int .i64 0, .slice none 0 0] := by rw [hr4]; exact Blk.new' _ _ _ _ rfl
            have laF4 : w.heap.size ≤ r3.heap.size := bw3.size
            have lq4X : w.heap.size < r3.heap.size := kX3.lt
            have lq4Y : (w.heap.size + 1) < r3.heap.size := kY3.lt
            have lq4RS : (w.heap.size + 2) < r3.heap.size := kRS3.lt
            have lq4RF : (w.heap.size + 3) < r3.heap.size := kRF3.lt
            have lq4O : r2.heap.size < r3.heap.size := kO3.lt
            clear hr4
            refine wpAnyH_ready (rs := [6]) (by kernel_rfl) (by simp) ?_
            refine AllReadyH.cons (o := ?oi12) ?hi12 (fun K hK => ?br12) AllReadyH.nil
            case hi12 => (conv => lhs; simp only [List.getElem?_toArray, List.getElem?_cons_zero, List.getElem?_cons_succ]); try exact rfl
            case br12 =>
              have x5_0 := kO4.get (x := .slice none 0 0) 0 rfl
              have f5_0 := kO4.frozen 0
              have x5_1 := kO4.get (x := .slice none 0 0) 1 rfl
              have f5_1 := kO4.frozen 1
              have lE5 := kO4.lt
              have neX5 : w.heap.size ≠ r2.heap.size := by have := kO4.lt; have := kX4.lt; first | exact Blk.ne_ kX4 kO4 (by decide) | omega
              have neY5 : (w.heap.size + 1) ≠ r2.heap.size := by have := kO4.lt; have := kY4.lt; first | exact Blk.ne_ kY4 kO4 (by decide) | omega
              have neRS5 : (w.heap.size + 2) ≠ r2.heap.size := by have := kO4.lt; have := kRS4.lt; first | exact Blk.ne_ kRS4 kO4 (by decide) | omega
              have neRF5 : (w.heap.size + 3) ≠ r2.heap.size := by have := kO4.lt; have := kRF4.lt; first | exact Blk.ne_ kRF4 kO4 (by decide) | omega
              have neF5 : r3.heap.size ≠ r2.heap.size := by have := kO4.lt; have := kF4.lt; first | exact Blk.ne_ kF4 kO4 (by decide) | omega
              go_simp
              refine hK.out _ _ (by exact ⟨(((kX4).far (p := ⟨r2.heap.size, 0, none⟩) neX5 (.slice D2 n1 D2c)).far (p := ⟨r2.heap.size, 1, none⟩) neX5 (.slice D3 n2 D3c)).get 0 rfl, (((kX4).far (p := ⟨r2.heap.size, 0, none⟩) neX5 (.slice D2 n1 D2c)).far (p := ⟨r2.heap.size, 1, none⟩) neX5 (.slice D3 n2 D3c)).get 1 rfl, (((kY4).far (p := ⟨r2.heap.size, 0, none⟩) neY5 (.slice D2 n1 D2c)).far (p := ⟨r2.heap.size, 1, none⟩) neY5 (.slice D3 n2 D3c)).get 0 rfl, (((kY4).far (p := ⟨r2.heap.size, 0, none⟩) neY5 (.slice D2 n1 D2c)).far (p := ⟨r2.heap.size, 1, none⟩) neY5 (.slice D3 n2 D3c)).get 1 rfl⟩) (fun _ => ?_)
              clear hK K x5_0 f5_0 x5_1 f5_1 lE5
              refine foldH ?_
              intro r5 hr5
              have bw5 : Below w.heap.size w r5 := by rw [hr5]; exact belC (belC (bw4) _ 0 laO3 (.slice D2 n1 D2c)) _ 1 laO3 (.slice D3 n2 D3c)
              have kX5 : Blk r5 w.heap.size 31 #[.slice A1 n1 c1, .slice A2 n2 c2] := by rw [hr5]; exact ((kX4).far (p := ⟨r2.heap.size, 0, none⟩) neX5 (.slice D2 n1 D2c)).far (p := ⟨r2.heap.size, 1, none⟩) neX5 (.slice D3 n2 D3c)
              have kY5 : Blk r5 (w.heap.size + 1) 34 #[.int .i64 sz, .slice A3 n3 c3] := by rw [hr5]; exact ((kY4).far (p := ⟨r2.heap.size, 0, none⟩) neY5 (.slice D2 n1 D2c)).far (p := ⟨r2.heap.size, 1, none⟩) neY5 (.slice D3 n2 D3c)
              have kRS5 : Blk r5 (w.heap.size + 2) 31 #[.slice none 0 0, .slice none 0 0] := by rw [hr5]; exact ((kRS4).far (p := ⟨r2.heap.size, 0, none⟩) neRS5 (.slice D2 n1 D2c)).far (p := ⟨r2.heap.size, 1, none⟩) neRS5 (.slice D3 n2 D3c)
              have kRF5 : Blk r5 (w.heap.size + 3) 34 #[.int .i64 0, .slice none 0 0] := by rw [hr5]; exact ((kRF4).far (p := ⟨r2.heap.size, 0, none⟩) neRF5 (.slice D2 n1 D2c)).far (p := ⟨r2.heap.size, 1, none⟩) neRF5 (.slice D3 n2 D3c)
              have kO5 : Blk r5 r2.heap.size 31 #[.slice D2 n1 D2c, .slice D3 n2 D3c] := by rw [hr5]; exact ((kO4.put 0 (.slice D2 n1 D2c) #[.slice D2 n1 D2c, .slice none 0 0] rfl).put 1 (.slice D3 n2 D3c) #[.slice D2 n1 D2c, .slice D3 n2 D3c] rfl)
              have kF5 : Blk r5 r3.heap.size 34 #[.int .i64 0, .slice none 0 0] := by rw [hr5]; exact ((kF4).far (p := ⟨r2.heap.size, 0, none⟩) neF5 (.slice D2 n1 D2c)).far (p := ⟨r2.heap.size, 1, none⟩) neF5 (.slice D3 n2 D3c)
              have oD25 : r5.ownsRow w.heap.size 4 1 (.slice D2 n1 D2c) n1 (BS S.bs) := by rw [hr5]; exact own_farT (own_farT (oD24) kO4 (by decide) 0 (.slice D2 n1 D2c)) (kO4.put 0 (.slice D2 n1 D2c) #[.slice D2 n1 D2c, .slice none 0 0] rfl) (by decide) 1 (.slice D3 n2 D3c)
              have oD35 : r5.ownsRow w.heap.size 9 1 (.slice D3 n2 D3c) n2 (SS S.ds) := by rw [hr5]; exact own_farT (own_farT (oD34) kO4 (by decide) 0 (.slice D2 n1 D2c)) (kO4.put 0 (.slice D2 n1 D2c) #[.slice D2 n1 D2c, .slice none 0 0] rfl) (by decide) 1 (.slice D3 n2 D3c)
              have oD45 : r5.ownsRow w.heap.size 76 3 (.slice D4 n3 D4c) n3 (XS F.xs) := by rw [hr5]; exact own_farT (own_farT (oD44) kO4 (by decide) 0 (.slice D2 n1 D2c)) (kO4.put 0 (.slice D2 n1 D2c) #[.slice D2 n1 D2c, .slice none 0 0] rfl) (by decide) 1 (.slice D3 n2 D3c)
              clear hr5
              refine wpAnyH_ready (rs := [7]) (by kernel_rfl) (by simp) ?_
              refine AllReadyH.cons (o := ?oi13) ?hi13 (fun K hK => ?br13) AllReadyH.nil
              case hi13 => (conv => lhs; simp only [List.getElem?_toArray, List.getElem?_cons_zero, List.getElem?_cons_succ]); try exact rfl
              case br13 =>
                have x6_0 := kF5.get (x := .int .i64 0) 0 rfl
                have f6_0 := kF5.frozen 0
                have x6_1 := kF5.get (x := .slice none 0 0) 1 rfl
                have f6_1 := kF5.frozen 1
                have lE6 := kF5.lt
                have neX6 : w.heap.size ≠ r3.heap.size := by have := kF5.lt; have := kX5.lt; first | exact Blk.ne_ kX5 kF5 (by decide) | omega
                have neY6 : (w.heap.size + 1) ≠ r3.heap.size := by have := kF5.lt; have := kY5.lt; first | exact Blk.ne_ kY5 kF5 (by decide) | omega
                have neRS6 : (w.heap.size + 2) ≠ r3.heap.size := by have := kF5.lt; have := kRS5.lt; first | exact Blk.ne_ kRS5 kF5 (by decide) | omega
                have neRF6 : (w.heap.size + 3) ≠ r3.heap.size := by have := kF5.lt; have := kRF5.lt; first | exact Blk.ne_ kRF5 kF5 (by decide) | omega
                have neO6 : r2.heap.size ≠ r3.heap.size := by have := kF5.lt; have := kO5.lt; first | exact Blk.ne_ kO5 kF5 (by decide) | omega
                go_simp
                refine hK.out _ _ (by exact ⟨(((kX5).far (p := ⟨r3.heap.size, 0, none⟩) neX6 (.int .i64 sz)).far (p := ⟨r3.heap.size, 1, none⟩) neX6 (.slice D4 n3 D4c)).get 0 rfl, (((kX5).far (p := ⟨r3.heap.size, 0, none⟩) neX6 (.int .i64 sz)).far (p := ⟨r3.heap.size, 1, none⟩) neX6 (.slice D4 n3 D4c)).get 1 rfl, (((kY5).far (p := ⟨r3.heap.size, 0, none⟩) neY6 (.int .i64 sz)).far (p := ⟨r3.heap.size, 1, none⟩) neY6 (.slice D4 n3 D4c)).get 0 rfl, (((kY5).far (p := ⟨r3.heap.size, 0, none⟩) neY6 (.int .i64 sz)).far (p := ⟨r3.heap.size, 1, none⟩) neY6 (.slice D4 n3 D4c)).get 1 rfl⟩) (fun _ => ?_)
                clear hK K x6_0 f6_0 x6_1 f6_1 lE6
                refine foldH ?_
                intro r6 hr6
                have bw6 : Below w.heap.size w r6 := by rw [hr6]; exact belC (belC (bw5) _ 0 laF4 (.int .i64 sz)) _ 1 laF4 (.slice D4 n3 D4c)
                have kX6 : Blk r6 w.heap.size 31 #[.slice A1 n1 c1, .slice A2 n2 c2] := by rw [hr6]; exact ((kX5).far (p := ⟨r3.heap.size, 0, none⟩) neX6 (.int .i64 sz)).far (p := ⟨r3.heap.size, 1, none⟩) neX6 (.slice D4 n3 D4c)
                have kY6 : Blk r6 (w.heap.size + 1) 34 #[.int .i64 sz, .slice A3 n3 c3] := by rw [hr6]; exact ((kY5).far (p := ⟨r3.heap.size, 0, none⟩) neY6 (.int .i64 sz)).far (p := ⟨r3.heap.size, 1, none⟩) neY6 (.slice D4 n3 D4c)
                have kRS6 : Blk r6 (w.heap.size + 2) 31 #[.slice none 0 0, .slice none 0 0] := by rw [hr6]; exact ((kRS5).far (p := ⟨r3.heap.size, 0, none⟩) neRS6 (.int .i64 sz)).far (p := ⟨r3.heap.size, 1, none⟩) neRS6 (.slice D4 n3 D4c)
                have kRF6 : Blk r6 (w.heap.size + 3) 34 #[.int .i64 0, .slice none 0 0] := by rw [hr6]; exact ((kRF5).far (p := ⟨r3.heap.size, 0, none⟩) neRF6 (.int .i64 sz)).far (p := ⟨r3.heap.size, 1, none⟩) neRF6 (.slice D4 n3 D4c)
                have kO6 : Blk r6 r2.heap.size 31 #[.slice D2 n1 D2c, .slice D3 n2 D3c] := by rw [hr6]; exact ((kO5).far (p := ⟨r3.heap.size, 0, none⟩) neO6 (.int .i64 sz)).far (p := ⟨r3.heap.size, 1, none⟩) neO6 (.slice D4 n3 D4c)
                have kF6 : Blk r6 r3.heap.size 34 #[.int .i64 sz, .slice D4 n3 D4c] := by rw [hr6]; exact ((kF5.put 0 (.int .i64 sz) #[.int .i64 sz, .slice none 0 0] rfl).put 1 (.slice D4 n3 D4c) #[.int .i64 sz, .slice D4 n3 D4c] rfl)
                have oD26 : r6.ownsRow w.heap.size 4 1 (.slice D2 n1 D2c) n1 (BS S.bs) := by rw [hr6]; exact own_farT (own_farT (oD25) kF5 (by decide) 0 (.int .i64 sz)) (kF5.put 0 (.int .i64 sz) #[.int .i64 sz, .slice none 0 0] rfl) (by decide) 1 (.slice D4 n3 D4c)
                have oD36 : r6.ownsRow w.heap.size 9 1 (.slice D3 n2 D3c) n2 (SS S.ds) := by rw [hr6]; exact own_farT (own_farT (oD35) kF5 (by decide) 0 (.int .i64 sz)) (kF5.put 0 (.int .i64 sz) #[.int .i64 sz, .slice none 0 0] rfl) (by decide) 1 (.slice D4 n3 D4c)
                have oD46 : r6.ownsRow w.heap.size 76 3 (.slice D4 n3 D4c) n3 (XS F.xs) := by rw [hr6]; exact own_farT (own_farT (oD45) kF5 (by decide) 0 (.int .i64 sz)) (kF5.put 0 (.int .i64 sz) #[.int .i64 sz, .slice none 0 0] rfl) (by decide) 1 (.slice D4 n3 D4c)
                clear hr6
                refine wpAnyH_done (by kernel_rfl) ?_ _
                have hl0 := kRF0.lt
                go_wp2_with fail
                go_meet
                case rel => exact ⟨r2.heap.size, r3.heap.size, D2, D2c, D3, D3c, D4, D4c, rfl, rfl, by have := laO3; have := bw0.size; omega, by omega, Lib.hid kX6, Lib.hid kY6, Lib.hid kRS6, Lib.hid kRF6, Lib.hid kO6, Lib.hid kF6, Lib.hid oD26, Lib.hid oD36, Lib.hid oD46, bw6⟩
        case br10 =>
          go_simp
          refine hK.out _ _ (by exact ⟨(kX2.alloc (.cells #[.int .i64 0, .slice none 0 0] 34)).get 0 rfl, (kX2.alloc (.cells #[.int .i64 0, .slice none 0 0] 34)).get 1 rfl, (kY2.alloc (.cells #[.int .i64 0, .slice none 0 0] 34)).get 0 rfl, (kY2.alloc (.cells #[.int .i64 0, .slice none 0 0] 34)).get 1 rfl⟩) (fun _ => ?_)
          clear hK K
          refine foldH ?_
          intro r3 hr3
          have bw3 : Below w.heap.size w r3 := by rw [hr3]; exact belA bw2 _
          have kX3 : Blk r3 w.heap.size 31 #[.slice A1 n1 c1, .slice A2 n2 c2] := by rw [hr3]; exact kX2.alloc _
          have kY3 : Blk r3 (w.heap.size + 1) 34 #[.int .i64 sz, .slice A3 n3 c3] := by rw [hr3]; exact kY2.alloc _
          have kRS3 : Blk r3 (w.heap.size + 2) 31 #[.slice none 0 0, .slice none 0 0] := by rw [hr3]; exact kRS2.alloc _
          have kRF3 : Blk r3 (w.heap.size + 3) 34 #[.int .i64 0, .slice none 0 0] := by rw [hr3]; exact kRF2.alloc _
          have oD23 : r3.ownsRow w.heap.size 4 1 (.slice D2 n1 D2c) n1 (BS S.bs) := by rw [hr3]; exact oD22.alloc _
          have oD33 : r3.ownsRow w.heap.size 9 1 (.slice D3 n2 D3c) n2 (SS S.ds) := by rw [hr3]; exact oD32.alloc _
          have oD43 : r3.ownsRow w.heap.size 76 3 (.slice D4 n3 D4c) n3 (XS F.xs) := by rw [hr3]; exact oD42.alloc _
          have kF3 : Blk r3 r2.heap.size 34 #[.int .i64 0, .slice none 0 0] := by rw [hr3]; exact Blk.new' _ _ _ _ rfl
          have laF3 : w.heap.size ≤ r2.heap.size := bw2.size
          have lq3X : w.heap.size < r2.heap.size := kX2.lt
          have lq3Y : (w.heap.size + 1) < r2.heap.size := kY2.lt
          have lq3RS : (w.heap.size + 2) < r2.heap.size := kRS2.lt
          have lq3RF : (w.heap.size + 3) < r2.heap.size := kRF2.lt
          clear hr3
          refine wpAnyH_ready (rs := [4]) (by kernel_rfl) (by simp) ?_
          refine AllReadyH.cons (o := ?oi14) ?hi14 (fun K hK => ?br14) AllReadyH.nil
          case hi14 => (conv => lhs; simp only [List.getElem?_toArray, List.getElem?_cons_zero, List.getElem?_cons_succ]); try exact rfl
          case br14 =>
            go_simp
            refine hK.out _ _ (by exact ⟨(kX3.alloc (.cells #[.slice none 0 0, .slice none 0 0] 31)).get 0 rfl, (kX3.alloc (.cells #[.slice none 0 0, .slice none 0 0] 31)).get 1 rfl, (kY3.alloc (.cells #[.slice none 0 0, .slice none 0 0] 31)).get 0 rfl, (kY3.alloc (.cells #[.slice none 0 0, .slice none 0 0] 31)).get 1 rfl⟩) (fun _ => ?_)
            clear hK K
            refine foldH ?_
            intro r4 hr4
            have bw4 : Below w.heap.size w r4 := by rw [hr4]; exact belA bw3 _
            have kX4 : Blk r4 w.heap.size 31 #[.slice A1 n1 c1, .slice A2 n2 c2] := by rw [hr4]; exact kX3.alloc _
            have kY4 : Blk r4 (w.heap.size + 1) 34 #[.int .i64 sz, .slice A3 n3 c3] := by rw [hr4]; exact kY3.alloc _
            have kRS4 : Blk r4 (w.heap.size + 2) 31 #[.slice none 0 0, .slice none 0 0] := by rw [hr4]; exact kRS3.alloc _
            have kRF4 : Blk r4 (w.heap.size + 3) 34 #[.int .i64 0, .slice none 0 0] := by rw [hr4]; exact kRF3.alloc _
            have kF4 : Blk r4 r2.heap.size 34 #[.int .i64 0, .slice none 0 0] := by rw [hr4]; exact kF3.alloc _
            have oD24 : r4.ownsRow w.heap.size 4 1 (.slice D2 n1 D2c) n1 (BS S.bs) := by rw [hr4]; exact oD23.alloc _
            have oD34 : r4.ownsRow w.heap.size 9 1 (.slice D3 n2 D3c) n2 (SS S.ds) := by rw [hr4]; exact oD33.alloc _
            have oD44 : r4.ownsRow w.heap.size 76 3 (.slice D4 n3 D4c) n3 (XS F.xs) := by rw [hr4]; exact oD43.alloc _
            have kO4 : Blk r4 r3.heap.size 31 #[.slice none 0 0, .slice none 0 0] := by rw [hr4]; exact Blk.new' _ _ _ _ rfl
            have laO4 : w.heap.size ≤ r3.heap.size := bw3.size
            have lq4X : w.heap.size < r3.heap.size := kX3.lt
            have lq4Y : (w.heap.size + 1) < r3.heap.size := kY3.lt
            have lq4RS : (w.heap.size + 2) < r3.heap.size := kRS3.lt
            have lq4RF : (w.heap.size + 3) < r3.heap.size := kRF3.lt
            have lq4F : r2.heap.size < r3.heap.size := kF3.lt
            clear hr4
            refine wpAnyH_ready (rs := [6]) (by kernel_rfl) (by simp) ?_
            refine AllReadyH.cons (o := ?oi15) ?hi15 (fun K hK => ?br15) AllReadyH.nil
            case hi15 => (conv => lhs; simp only [List.getElem?_toArray, List.getElem?_cons_zero, List.getElem?_cons_succ]); try exact rfl
            case br15 =>
              have x5_0 := kO4.get (x := .slice none 0 0) 0 rfl
              have f5_0 := kO4.frozen 0
              have x5_1 := kO4.get (x := .slice none 0 0) 1 rfl
              have f5_1 := kO4.frozen 1
              have lE5 := kO4.lt
              have neX5 : w.heap.size ≠ r3.heap.size := by have := kO4.lt; have := kX4.lt; first | exact Blk.ne_ kX4 kO4 (by decide) | omega
              have neY5 : (w.heap.size + 1) ≠ r3.heap.size := by have := kO4.lt; have := kY4.lt; first | exact Blk.ne_ kY4 kO4 (by decide) | omega
              have neRS5 : (w.heap.size + 2) ≠ r3.heap.size := by have := kO4.lt; have := kRS4.lt; first | exact Blk.ne_ kRS4 kO4 (by decide) | omega
              have neRF5 : (w.heap.size + 3) ≠ r3.heap.size := by have := kO4.lt; have := kRF4.lt; first | exact Blk.ne_ kRF4 kO4 (by decide) | omega
              have neF5 : r2.heap.size ≠ r3.heap.size := by have := kO4.lt; have := kF4.lt; first | exact Blk.ne_ kF4 kO4 (by decide) | omega
              go_simp
              refine hK.out _ _ (by exact ⟨(((kX4).far (p := ⟨r3.heap.size, 0, none⟩) neX5 (.slice D2 n1 D2c)).far (p := ⟨r3.heap.size, 1, none⟩) neX5 (.slice D3 n2 D3c)).get 0 rfl, (((kX4).far (p := ⟨r3.heap.size, 0, none⟩) neX5 (.slice D2 n1 D2c)).far (p := ⟨r3.heap.size, 1, none⟩) neX5 (.slice D3 n2 D3c)).get 1 rfl, (((kY4).far (p := ⟨r3.heap.size, 0, none⟩) neY5 (.slice D2 n1 D2c)).far (p := ⟨r3.heap.size, 1, none⟩) neY5 (.slice D3 n2 D3c)).get 0 rfl, (((kY4).far (p := ⟨r3.heap.size, 0, none⟩) neY5 (.slice D2 n1 D2c)).far (p := ⟨r3.heap.size, 1, none⟩) neY5 (.slice D3 n2 D3c)).get 1 rfl⟩) (fun _ => ?_)
              clear hK K x5_0 f5_0 x5_1 f5_1 lE5
              refine foldH ?_
              intro r5 hr5
              have bw5 : Below w.heap.size w r5 := by rw [hr5]; exact belC (belC (bw4) _ 0 laO4 (.slice D2 n1 D2c)) _ 1 laO4 (.slice D3 n2 D3c)
              have kX5 : Blk r5 w.heap.size 31 #[.slice A1 n1 c1, .slice A2 n2 c2] := by rw [hr5]; exact ((kX4).far (p := ⟨r3.heap.size, 0, none⟩) neX5 (.slice D2 n1 D2c)).far (p := ⟨r3.heap.size, 1, none⟩) neX5 (.slice D3 n2 D3c)
              have kY5 : Blk r5 (w.heap.size + 1) 34 #[.int .i64 sz, .slice A3 n3 c3] := by rw [hr5]; exact ((kY4).far (p := ⟨r3.heap.size, 0, none⟩) neY5 (.slice D2 n1 D2c)).far (p := ⟨r3.heap.size, 1, none⟩) neY5 (.slice D3 n2 D3c)
              have kRS5 : Blk r5 (w.heap.size + 2) 31 #[.slice none 0 0, .slice none 0 0] := by rw [hr5]; exact ((kRS4).far (p := ⟨r3.heap.size, 0, none⟩) neRS5 (.slice D2 n1 D2c)).far (p := ⟨r3.heap.size, 1, none⟩) neRS5 (.slice D3 n2 D3c)
              have kRF5 : Blk r5 (w.heap.size + 3) 34 #[.int .i64 0, .slice none 0 0] := by rw [hr5]; exact ((kRF4).far (p := ⟨r3.heap.size, 0, none⟩) neRF5 (.slice D2 n1 D2c)).far (p := ⟨r3.heap.size, 1, none⟩) neRF5 (.slice D3 n2 D3c)
              have kF5 : Blk r5 r2.heap.size 34 #[.int .i64 0, .slice none 0 0] := by rw [hr5]; exact ((kF4).far (p := ⟨r3.heap.size, 0, none⟩) neF5 (.slice D2 n1 D2c)).far (p := ⟨r3.heap.size, 1, none⟩) neF5 (.slice D3 n2 D3c)
              have kO5 : Blk r5 r3.heap.size 31 #[.slice D2 n1 D2c, .slice D3 n2 D3c] := by rw [hr5]; exact ((kO4.put 0 (.slice D2 n1 D2c) #[.slice D2 n1 D2c, .slice none 0 0] rfl).put 1 (.slice D3 n2 D3c) #[.slice D2 n1 D2c, .slice D3 n2 D3c] rfl)
              have oD25 : r5.ownsRow w.heap.size 4 1 (.slice D2 n1 D2c) n1 (BS S.bs) := by rw [hr5]; exact own_farT (own_farT (oD24) kO4 (by decide) 0 (.slice D2 n1 D2c)) (kO4.put 0 (.slice D2 n1 D2c) #[.slice D2 n1 D2c, .slice none 0 0] rfl) (by decide) 1 (.slice D3 n2 D3c)
              have oD35 : r5.ownsRow w.heap.size 9 1 (.slice D3 n2 D3c) n2 (SS S.ds) := by rw [hr5]; exact own_farT (own_farT (oD34) kO4 (by decide) 0 (.slice D2 n1 D2c)) (kO4.put 0 (.slice D2 n1 D2c) #[.slice D2 n1 D2c, .slice none 0 0] rfl) (by decide) 1 (.slice D3 n2 D3c)
              have oD45 : r5.ownsRow w.heap.size 76 3 (.slice D4 n3 D4c) n3 (XS F.xs) := by rw [hr5]; exact own_farT (own_farT (oD44) kO4 (by decide) 0 (.slice D2 n1 D2c)) (kO4.put 0 (.slice D2 n1 D2c) #[.slice D2 n1 D2c, .slice none 0 0] rfl) (by decide) 1 (.slice D3 n2 D3c)
              clear hr5
              refine wpAnyH_ready (rs := [7]) (by kernel_rfl) (by simp) ?_
              refine AllReadyH.cons (o := ?oi16) ?hi16 (fun K hK => ?br16) AllReadyH.nil
              case hi16 => (conv => lhs; simp only [List.getElem?_toArray, List.getElem?_cons_zero, List.getElem?_cons_succ]); try exact rfl
              case br16 =>
                have x6_0 := kF5.get (x := .int .i64 0) 0 rfl
                have f6_0 := kF5.frozen 0
                have x6_1 := kF5.get (x := .slice none 0 0) 1 rfl
                have f6_1 := kF5.frozen 1
                have lE6 := kF5.lt
                have neX6 : w.heap.size ≠ r2.heap.size := by have := kF5.lt; have := kX5.lt; first | exact Blk.ne_ kX5 kF5 (by decide) | omega
                have neY6 : (w.heap.size + 1) ≠ r2.heap.size := by have := kF5.lt; have := kY5.lt; first | exact Blk.ne_ kY5 kF5 (by decide) | omega
                have neRS6 : (w.heap.size + 2) ≠ r2.heap.size := by have := kF5.lt; have := kRS5.lt; first | exact Blk.ne_ kRS5 kF5 (by decide) | omega
                have neRF6 : (w.heap.size + 3) ≠ r2.heap.size := by have := kF5.lt; have := kRF5.lt; first | exact Blk.ne_ kRF5 kF5 (by decide) | omega
                have neO6 : r3.heap.size ≠ r2.heap.size := by have := kF5.lt; have := kO5.lt; first | exact Blk.ne_ kO5 kF5 (by decide) | omega
                go_simp
                refine hK.out _ _ (by exact ⟨(((kX5).far (p := ⟨r2.heap.size, 0, none⟩) neX6 (.int .i64 sz)).far (p := ⟨r2.heap.size, 1, none⟩) neX6 (.slice D4 n3 D4c)).get 0 rfl, (((kX5).far (p := ⟨r2.heap.size, 0, none⟩) neX6 (.int .i64 sz)).far (p := ⟨r2.heap.size, 1, none⟩) neX6 (.slice D4 n3 D4c)).get 1 rfl, (((kY5).far (p := ⟨r2.heap.size, 0, none⟩) neY6 (.int .i64 sz)).far (p := ⟨r2.heap.size, 1, none⟩) neY6 (.slice D4 n3 D4c)).get 0 rfl, (((kY5).far (p := ⟨r2.heap.size, 0, none⟩) neY6 (.int .i64 sz)).far (p := ⟨r2.heap.size, 1, none⟩) neY6 (.slice D4 n3 D4c)).get 1 rfl⟩) (fun _ => ?_)
                clear hK K x6_0 f6_0 x6_1 f6_1 lE6
                refine foldH ?_
                intro r6 hr6
                have bw6 : Below w.heap.size w r6 := by rw [hr6]; exact belC (belC (bw5) _ 0 laF3 (.int .i64 sz)) _ 1 laF3 (.slice D4 n3 D4c)
                have kX6 : Blk r6 w.heap.size 31 #[.slice A1 n1 c1, .slice A2 n2 c2] := by rw [hr6]; exact ((kX5).far (p := ⟨r2.heap.size, 0, none⟩) neX6 (.int .i64 sz)).far (p := ⟨r2.heap.size, 1, none⟩) neX6 (.slice D4 n3 D4c)
                have kY6 : Blk r6 (w.heap.size + 1) 34 #[.int .i64 sz, .slice A3 n3 c3] := by rw [hr6]; exact ((kY5).far (p := ⟨r2.heap.size, 0, none⟩) neY6 (.int .i64 sz)).far (p := ⟨r2.heap.size, 1, none⟩) neY6 (.slice D4 n3 D4c)
                have kRS6 : Blk r6 (w.heap.size + 2) 31 #[.slice none 0 0, .slice none 0 0] := by rw [hr6]; exact ((kRS5).far (p := ⟨r2.heap.size, 0, none⟩) neRS6 (.int .i64 sz)).far (p := ⟨r2.heap.size, 1, none⟩) neRS6 (.slice D4 n3 D4c)
                have kRF6 : Blk r6 (w.heap.size + 3) 34 #[.int .i64 0, .slice none 0 0] := by rw [hr6]; exact ((kRF5).far (p := ⟨r2.heap.size, 0, none⟩) neRF6 (.int .i64 sz)).far (p := ⟨r2.heap.size, 1, none⟩) neRF6 (.slice D4 n3 D4c)
                have kF6 : Blk r6 r2.heap.size 34 #[.int .i64 sz, .slice D4 n3 D4c] := by rw [hr6]; exact ((kF5.put 0 (.int .i64 sz) #[.int .i64 sz, .slice none 0 0] rfl).put 1 (.slice D4 n3 D4c) #[.int .i64 sz, .slice D4 n3 D4c] rfl)
                have kO6 : Blk r6 r3.heap.size 31 #[.slice D2 n1 D2c, .slice D3 n2 D3c] := by rw [hr6]; exact ((kO5).far (p := ⟨r2.heap.size, 0, none⟩) neO6 (.int .i64 sz)).far (p := ⟨r2.heap.size, 1, none⟩) neO6 (.slice D4 n3 D4c)
                have oD26 : r6.ownsRow w.heap.size 4 1 (.slice D2 n1 D2c) n1 (BS S.bs) := by rw [hr6]; exact own_farT (own_farT (oD25) kF5 (by decide) 0 (.int .i64 sz)) (kF5.put 0 (.int .i64 sz) #[.int .i64 sz, .slice none 0 0] rfl) (by decide) 1 (.slice D4 n3 D4c)
                have oD36 : r6.ownsRow w.heap.size 9 1 (.slice D3 n2 D3c) n2 (SS S.ds) := by rw [hr6]; exact own_farT (own_farT (oD35) kF5 (by decide) 0 (.int .i64 sz)) (kF5.put 0 (.int .i64 sz) #[.int .i64 sz, .slice none 0 0] rfl) (by decide) 1 (.slice D4 n3 D4c)
                have oD46 : r6.ownsRow w.heap.size 76 3 (.slice D4 n3 D4c) n3 (XS F.xs) := by rw [hr6]; exact own_farT (own_farT (oD45) kF5 (by decide) 0 (.int .i64 sz)) (kF5.put 0 (.int .i64 sz) #[.int .i64 sz, .slice none 0 0] rfl) (by decide) 1 (.slice D4 n3 D4c)
                clear hr6
                refine wpAnyH_done (by kernel_rfl) ?_ _
                have hl0 := kRF0.lt
                go_wp2_with fail
                go_meet
                case rel => exact ⟨r3.heap.size, r2.heap.size, D2, D2c, D3, D3c, D4, D4c, rfl, rfl, by have := laO4; have := bw0.size; omega, by omega, Lib.hid kX6, Lib.hid kY6, Lib.hid kRS6, Lib.hid kRF6, Lib.hid kO6, Lib.hid kF6, Lib.hid oD26, Lib.hid oD36, Lib.hid oD46, bw6⟩
      case br7 =>
        go_simp
        refine hK.out _ _ (by exact ⟨(kX1.alloc (.cells #[.slice none 0 0, .slice none 0 0] 31)).get 0 rfl, (kX1.alloc (.cells #[.slice none 0 0, .slice none 0 0] 31)).get 1 rfl, (kY1.alloc (.cells #[.slice none 0 0, .slice none 0 0] 31)).get 0 rfl, (kY1.alloc (.cells #[.slice none 0 0, .slice none 0 0] 31)).get 1 rfl⟩) (fun _ => ?_)
        clear hK K
        refine foldH ?_
        intro r2 hr2
        have bw2 : Below w.heap.size w r2 := by rw [hr2]; exact belA bw1 _
        have kX2 : Blk r2 w.heap.size 31 #[.slice A1 n1 c1, .slice A2 n2 c2] := by rw [hr2]; exact kX1.alloc _
        have kY2 : Blk r2 (w.heap.size + 1) 34 #[.int .i64 sz, .slice A3 n3 c3] := by rw [hr2]; exact kY1.alloc _
        have kRS2 : Blk r2 (w.heap.size + 2) 31 #[.slice none 0 0, .slice none 0 0] := by rw [hr2]; exact kRS1.alloc _
        have kRF2 : Blk r2 (w.heap.size + 3) 34 #[.int .i64 0, .slice none 0 0] := by rw [hr2]; exact kRF1.alloc _
        have oD22 : r2.ownsRow w.heap.size 4 1 (.slice D2 n1 D2c) n1 (BS S.bs) := by rw [hr2]; exact oD21.alloc _
        have oD32 : r2.ownsRow w.heap.size 9 1 (.slice D3 n2 D3c) n2 (SS S.ds) := by rw [hr2]; exact oD31.alloc _
        have kO2 : Blk r2 r1.heap.size 31 #[.slice none 0 0, .slice none 0 0] := by rw [hr2]; exact Blk.new' _ _ _ _ rfl
        have laO2 : w.heap.size ≤ r1.heap.size := bw1.size
        have lq2X : w.heap.size < r1.heap.size := kX1.lt
        have lq2Y : (w.heap.size + 1) < r1.heap.size := kY1.lt
        have lq2RS : (w.heap.size + 2) < r1.heap.size := kRS1.lt
        have lq2RF : (w.heap.size + 3) < r1.heap.size := kRF1.lt
        clear hr2
        refine wpAnyH_ready (rs := [3, 5]) (by kernel_rfl) (by simp) ?_
        refine AllReadyH.cons (o := ?oi17) ?hi17 (fun K hK => ?br17) (AllReadyH.cons (o := ?oi18) ?hi18 (fun K hK => ?br18) AllReadyH.nil)
        case hi17 => (conv => lhs; simp only [List.getElem?_toArray, List.getElem?_cons_zero, List.getElem?_cons_succ]); try exact rfl
        case hi18 => (conv => lhs; simp only [List.getElem?_toArray, List.getElem?_cons_zero, List.getElem?_cons_succ]); try exact rfl
        case br17 =>
          go_simp
          go_at_call 31
          refine (copyFil_impl _ F HF.out _ (HFil.out _ bw2)).mono ?_
          rintro e r3 ⟨_, rfl, hOF, hb3r⟩
          have bw3 : Below w.heap.size w r3 := bw2.trans (hb3r.mono bw2.size)
          have kX3 : Blk r3 w.heap.size 31 #[.slice A1 n1 c1, .slice A2 n2 c2] := kX2.below hb3r kX2.lt
          have kY3 : Blk r3 (w.heap.size + 1) 34 #[.int .i64 sz, .slice A3 n3 c3] := kY2.below hb3r kY2.lt
          have kRS3 : Blk r3 (w.heap.size + 2) 31 #[.slice none 0 0, .slice none 0 0] := kRS2.below hb3r kRS2.lt
          have kRF3 : Blk r3 (w.heap.size + 3) 34 #[.int .i64 0, .slice none 0 0] := kRF2.below hb3r kRF2.lt
          have kO3 : Blk r3 r1.heap.size 31 #[.slice none 0 0, .slice none 0 0] := kO2.below hb3r kO2.lt
          have oD23 : r3.ownsRow w.heap.size 4 1 (.slice D2 n1 D2c) n1 (BS S.bs) := own_below oD22 hb3r (Nat.le_refl _)
          have oD33 : r3.ownsRow w.heap.size 9 1 (.slice D3 n2 D3c) n2 (SS S.ds) := own_below oD32 hb3r (Nat.le_refl _)
          obtain ⟨_, rfl, oa⟩ := hOF
          rw [Hl3.out] at oa
          rw [Hsz.out]
          obtain ⟨D4, D4c, rfl, _, _, _⟩ := own_vals oa
          have oD43 := own_more oa bw2.size
          clear oa
          refine hK.out _ _ (by exact ⟨(kX3).get 0 rfl, (kX3).get 1 rfl, (kY3).get 0 rfl, (kY3).get 1 rfl⟩) (fun _ => ?_)
          clear hK K
          refine wpAnyH_ready (rs := [5]) (by kernel_rfl) (by simp) ?_
          refine AllReadyH.cons (o := ?oi19) ?hi19 (fun K hK => ?br19) AllReadyH.nil
          case hi19 => (conv => lhs; simp only [List.getElem?_toArray, List.getElem?_cons_zero, List.getElem?_cons_succ]); try exact rfl
          case br19 =>
            go_simp
            refine hK.out _ _ (by exact ⟨(kX3.alloc (.cells #[.int .i64 0, .slice none 0 0] 34)).get 0 rfl, (kX3.alloc (.cells #[.int .i64 0, .slice none 0 0] 34)).get 1 rfl, (kY3.alloc (.cells #[.int .i64 0, .slice none 0 0] 34)).get 0 rfl, (kY3.alloc (.cells #[.int .i64 0, .slice none 0 0] 34)).get 1 rfl⟩) (fun _ => ?_)
            clear hK K
            refine foldH ?_
            intro r4 hr4
            have bw4 : Below w.heap.size w r4 := by rw [hr4]; exact belA bw3 _
            have kX4 : Blk r4 w.heap.size 31 #[.slice A1 n1 c1, .slice A2 n2 c2] := by rw [hr4]; exact kX3.alloc _
            have kY4 : Blk r4 (w.heap.size + 1) 34 #[.int .i64 sz, .slice A3 n3 c3] := by rw [hr4]; exact kY3.alloc _
            have kRS4 : Blk r4 (w.heap.size + 2) 31 #[.slice none 0 0, .slice none 0 0] := by rw [hr4]; exact kRS3.alloc _
            have kRF4 : Blk r4 (w.heap.size + 3) 34 #[.int .i64 0, .slice none 0 0] := by rw [hr4]; exact kRF3.alloc _
            have kO4 : Blk r4 r1.heap.size 31 #[.slice none 0 0, .slice none 0 0] := by rw [hr4]; exact kO3.alloc _
            have oD24 : r4.ownsRow w.heap.size 4 1 (.slice D2 n1 D2c) n1 (BS S.bs) := by rw [hr4]; exact oD23.alloc _
            have oD34 : r4.ownsRow w.heap.size 9 1 (.slice D3 n2 D3c) n2 (SS S.ds) := by rw [hr4]; exact oD33.alloc _
            have oD44 : r4.ownsRow w.heap.size 76 3 (.slice D4 n3 D4c) n3 (XS F.xs) := by rw [hr4]; exact oD43.alloc _
            have kF4 : Blk r4 r3.heap.size 34 #[.int .i64 0, .slice none 0 0] := by rw [hr4]; exact Blk.new' _ _ _ _ rfl
            have laF4 : w.heap.size ≤ r3.heap.size := bw3.size
            have lq4X : w.heap.size < r3.heap.size := kX3.lt
            have lq4Y : (w.heap.size + 1) < r3.heap.size := kY3.lt
            have lq4RS : (w.heap.size + 2) < r3.heap.size := kRS3.lt
            have lq4RF : (w.heap.size + 3) < r3.heap.size := kRF3.lt
            have lq4O : r1.heap.size < r3.heap.size := kO3.lt
            clear hr4
            refine wpAnyH_ready (rs := [6]) (by kernel_rfl) (by simp) ?_
            refine AllReadyH.cons (o := ?oi20) ?hi20 (fun K hK => ?br20) AllReadyH.nil
            case hi20 => (conv => lhs; simp only [List.getElem?_toArray, List.getElem?_cons_zero, List.getElem?_cons_succ]); try exact rfl
            case br20 =>
              have x5_0 := kO4.get (x := .slice none 0 0) 0 rfl
              have f5_0 := kO4.frozen 0
              have x5_1 := kO4.get (x := .slice none 0 0) 1 rfl
              have f5_1 := kO4.frozen 1
              have lE5 := kO4.lt
              have neX5 : w.heap.size ≠ r1.heap.size := by have := kO4.lt; have := kX4.lt; first | exact Blk.ne_ kX4 kO4 (by decide) | omega
              have neY5 : (w.heap.size + 1) ≠ r1.heap.size := by have := kO4.lt; have := kY4.lt; first | exact Blk.ne_ kY4 kO4 (by decide) | omega
              have neRS5 : (w.heap.size + 2) ≠ r1.heap.size := by have := kO4.lt; have := kRS4.lt; first | exact Blk.ne_ kRS4 kO4 (by decide) | omega
              have neRF5 : (w.heap.size + 3) ≠ r1.heap.size := by have := kO4.lt; have := kRF4.lt; first | exact Blk.ne_ kRF4 kO4 (by decide) | omega
              have neF5 : r3.heap.size ≠ r1.heap.size := by have := kO4.lt; have := kF4.lt; first | exact Blk.ne_ kF4 kO4 (by decide) | omega
              go_simp
              refine hK.out _ _ (by exact ⟨(((kX4).far (p := ⟨r1.heap.size, 0, none⟩) neX5 (.slice D2 n1 D2c)).far (p := ⟨r1.heap.size, 1, none⟩) neX5 (.slice D3 n2 D3c)).get 0 rfl, (((kX4).far (p := ⟨r1.heap.size, 0, none⟩) neX5 (.slice D2 n1 D2c)).far (p := ⟨r1.heap.size, 1, none⟩) neX5 (.slice D3 n2 D3c)).get 1 rfl, (((kY4).far (p := ⟨r1.heap.size, 0, none⟩) neY5 (.slice D2 n1 D2c)).far (p := ⟨r1.heap.size, 1, none⟩) neY5 (.slice D3 n2 D3c)).get 0 rfl, (((kY4).far (p := ⟨r1.heap.size, 0, none⟩) neY5 (.slice D2 n1 D2c)).far (p := ⟨r1.heap.size, 1, none⟩) neY5 (.slice D3 n2 D3c)).get 1 rfl⟩) (fun _ => ?_)
              clear hK K x5_0 f5_0 x5_1 f5_1 lE5
              refine foldH ?_
              intro r5 hr5
              have bw5 : Below w.heap.size w r5 := by rw [hr5]; exact belC (belC (bw4) _ 0 laO2 (.slice D2 n1 D2c)) _ 1 laO2 (.slice D3 n2 D3c)
              have kX5 : Blk r5 w.heap.size 31 #[.slice A1 n1 c1, .slice A2 n2 c2] := by rw [hr5]; exact ((kX4).far (p := ⟨r1.heap.size, 0, none⟩) neX5 (.slice D2 n1 D2c)).far (p := ⟨r1.heap.size, 1, none⟩) neX5 (.slice D3 n2 D3c)
              have kY5 : Blk r5 (w.heap.size + 1) 34 #[.int .i64 sz, .slice A3 n3 c3] := by rw [hr5]; exact ((kY4).far (p := ⟨r1.heap.size, 0, none⟩) neY5 (.slice D2 n1 D2c)).far (p := ⟨r1.heap.size, 1, none⟩) neY5 (.slice D3 n2 D3c)
              have kRS5 : Blk r5 (w.heap.size + 2) 31 #[.slice none 0 0, .slice none 0 0] := by rw [hr5]; exact ((kRS4).far (p := ⟨r1.heap.size, 0, none⟩) neRS5 (.slice D2 n1 D2c)).far (p := ⟨r1.heap.size, 1, none⟩) neRS5 (.slice D3 n2 D3c)
              have kRF5 : Blk r5 (w.heap.size + 3) 34 #[.int .i64 0, .slice none 0 0] := by rw [hr5]; exact ((kRF4).far (p := ⟨r1.heap.size, 0, none⟩) neRF5 (.slice D2 n1 D2c)).far (p := ⟨r1.heap.size, 1, none⟩) neRF5 (.slice D3 n2 D3c)
              have kO5 : Blk r5 r1.heap.size 31 #[.slice D2 n1 D2c, .slice D3 n2 D3c] := by rw [hr5]; exact ((kO4.put 0 (.slice D2 n1 D2c) #[.slice D2 n1 D2c, .slice none 0 0] rfl).put 1 (.slice D3 n2 D3c) #[.slice D2 n1 D2c, .slice D3 n2 D3c] rfl)
              have kF5 : Blk r5 r3.heap.size 34 #[.int .i64 0, .slice none 0 0] := by rw [hr5]; exact ((kF4).far (p := ⟨r1.heap.size, 0, none⟩) neF5 (.slice D2 n1 D2c)).far (p := ⟨r1.heap.size, 1, none⟩) neF5 (.slice D3 n2 D3c)
              have oD25 : r5.ownsRow w.heap.size 4 1 (.slice D2 n1 D2c) n1 (BS S.bs) := by rw [hr5]; exact own_farT (own_farT (oD24) kO4 (by decide) 0 (.slice D2 n1 D2c)) (kO4.put 0 (.slice D2 n1 D2c) #[.slice D2 n1 D2c, .slice none 0 0] rfl) (by decide) 1 (.slice D3 n2 D3c)
              have oD35 : r5.ownsRow w.heap.size 9 1 (.slice D3 n2 D3c) n2 (SS S.ds) := by rw [hr5]; exact own_farT (own_farT (oD34) kO4 (by decide) 0 (.slice D2 n1 D2c)) (kO4.put 0 (.slice D2 n1 D2c) #[.slice D2 n1 D2c, .slice none 0 0] rfl) (by decide) 1 (.slice D3 n2 D3c)
              have oD45 : r5.ownsRow w.heap.size 76 3 (.slice D4 n3 D4c) n3 (XS F.xs) := by rw [hr5]; exact own_farT (own_farT (oD44) kO4 (by decide) 0 (.slice D2 n1 D2c)) (kO4.put 0 (.slice D2 n1 D2c) #[.slice D2 n1 D2c, .slice none 0 0] rfl) (by decide) 1 (.slice D3 n2 D3c)
              clear hr5
              refine wpAnyH_ready (rs := [7]) (by kernel_rfl) (by simp) ?_
              refine AllReadyH.cons (o := ?oi21) ?hi21 (fun K hK => ?br21) AllReadyH.nil
              case hi21 => (conv => lhs; simp only [List.getElem?_toArray, List.getElem?_cons_zero, List.getElem?_cons_succ]); try exact rfl
              case br21 =>
                have x6_0 := kF5.get (x := .int .i64 0) 0 rfl
                have f6_0 := kF5.frozen 0
                have x6_1 := kF5.get (x := .slice none 0 0) 1 rfl
                have f6_1 := kF5.frozen 1
                have lE6 := kF5.lt
                have neX6 : w.heap.size ≠ r3.heap.size := by have := kF5.lt; have := kX5.lt; first | exact Blk.ne_ kX5 kF5 (by decide) | omega
                have neY6 : (w.heap.size + 1) ≠ r3.heap.size := by have := kF5.lt; have := kY5.lt; first | exact Blk.ne_ kY5 kF5 (by decide) | omega
                have neRS6 : (w.heap.size + 2) ≠ r3.heap.size := by have := kF5.lt; have := kRS5.lt; first | exact Blk.ne_ kRS5 kF5 (by decide) | omega
                have neRF6 : (w.heap.size + 3) ≠ r3.heap.size := by have := kF5.lt; have := kRF5.lt; first | exact Blk.ne_ kRF5 kF5 (by decide) | omega
                have neO6 : r1.heap.size ≠ r3.heap.size := by have := kF5.lt; have := kO5.lt; first | exact Blk.ne_ kO5 kF5 (by decide) | omega
                go_simp
                refine hK.out _ _ (by exact ⟨(((kX5).far (p := ⟨r3.heap.size, 0, none⟩) neX6 (.int .i64 sz)).far (p := ⟨r3.heap.size, 1, none⟩) neX6 (.slice D4 n3 D4c)).get 0 rfl, (((kX5).far (p := ⟨r3.heap.size, 0, none⟩) neX6 (.int .i64 sz)).far (p := ⟨r3.heap.size, 1, none⟩) neX6 (.slice D4 n3 D4c)).get 1 rfl, (((kY5).far (p := ⟨r3.heap.size, 0, none⟩) neY6 (.int .i64 sz)).far (p := ⟨r3.heap.size, 1, none⟩) neY6 (.slice D4 n3 D4c)).get 0 rfl, (((kY5).far (p := ⟨r3.heap.size, 0, none⟩) neY6 (.int .i64 sz)).far (p := ⟨r3.heap.size, 1, none⟩) neY6 (.slice D4 n3 D4c)).get 1 rfl⟩) (fun _ => ?_)
                clear hK K x6_0 f6_0 x6_1 f6_1 lE6
                refine foldH ?_
                intro r6 hr6
                have bw6 : Below w.heap.size w r6 := by rw [hr6]; exact belC (belC (bw5) _ 0 laF4 (.int .i64 sz)) _ 1 laF4 (.slice D4 n3 D4c)
                have kX6 : Blk r6 w.heap.size 31 #[.slice A1 n1 c1, .slice A2 n2 c2] := by rw [hr6]; exact ((kX5).far (p := ⟨r3.heap.size, 0, none⟩) neX6 (.int .i64 sz)).far (p := ⟨r3.heap.size, 1, none⟩) neX6 (.slice D4 n3 D4c)
                have kY6 : Blk r6 (w.heap.size + 1) 34 #[.int .i64 sz, .slice A3 n3 c3] := by rw [hr6]; exact ((kY5).far (p := ⟨r3.heap.size, 0, none⟩) neY6 (.int .i64 sz)).far (p := ⟨r3.heap.size, 1, none⟩) neY6 (.slice D4 n3 D4c)
                have kRS6 : Blk r6 (w.heap.size + 2) 31 #[.slice none 0 0, .slice none 0 0] := by rw [hr6]; exact ((kRS5).far (p := ⟨r3.heap.size, 0, none⟩) neRS6 (.int .i64 sz)).far (p := ⟨r3.heap.size, 1, none⟩) neRS6 (.slice D4 n3 D4c)
                have kRF6 : Blk r6 (w.heap.size + 3) 34 #[.int .i64 0, .slice none 0 0] := by rw [hr6]; exact ((kRF5).far (p := ⟨r3.heap.size, 0, none⟩) neRF6 (.int .i64 sz)).far (p := ⟨r3.heap.size, 1, none⟩) neRF6 (.slice D4 n3 D4c)
                have kO6 : Blk r6 r1.heap.size 31 #[.slice D2 n1 D2c, .slice D3 n2 D3c] := by rw [hr6]; exact ((kO5).far (p := ⟨r3.heap.size, 0, none⟩) neO6 (.int .i64 sz)).far (p := ⟨r3.heap.size, 1, none⟩) neO6 (.slice D4 n3 D4c)
                have kF6 : Blk r6 r3.heap.size 34 #[.int .i64 sz, .slice D4 n3 D4c] := by rw [hr6]; exact ((kF5.put 0 (.int .i64 sz) #[.int .i64 sz, .slice none 0 0] rfl).put 1 (.slice D4 n3 D4c) #[.int .i64 sz, .slice D4 n3 D4c] rfl)
                have oD26 : r6.ownsRow w.heap.size 4 1 (.slice D2 n1 D2c) n1 (BS S.bs) := by rw [hr6]; exact own_farT (own_farT (oD25) kF5 (by decide) 0 (.int .i64 sz)) (kF5.put 0 (.int .i64 sz) #[.int .i64 sz, .slice none 0 0] rfl) (by decide) 1 (.slice D4 n3 D4c)
                have oD36 : r6.ownsRow w.heap.size 9 1 (.slice D3 n2 D3c) n2 (SS S.ds) := by rw [hr6]; exact own_farT (own_farT (oD35) kF5 (by decide) 0 (.int .i64 sz)) (kF5.put 0 (.int .i64 sz) #[.int .i64 sz, .slice none 0 0] rfl) (by decide) 1 (.slice D4 n3 D4c)
                have oD46 : r6.ownsRow w.heap.size 76 3 (.slice D4 n3 D4c) n3 (XS F.xs) := by rw [hr6]; exact own_farT (own_farT (oD45) kF5 (by decide) 0 (.int .i64 sz)) (kF5.put 0 (.int .i64 sz) #[.int .i64 sz, .slice none 0 0] rfl) (by decide) 1 (.slice D4 n3 D4c)
                clear hr6
                refine wpAnyH_done (by kernel_rfl) ?_ _
                have hl0 := kRF0.lt
                go_wp2_with fail
                go_meet
                case rel => exact ⟨r1.heap.size, r3.heap.size, D2, D2c, D3, D3c, D4, D4c, rfl, rfl, by have := laO2; have := bw0.size; omega, by omega, Lib.hid kX6, Lib.hid kY6, Lib.hid kRS6, Lib.hid kRF6, Lib.hid kO6, Lib.hid kF6, Lib.hid oD26, Lib.hid oD36, Lib.hid oD46, bw6⟩
        case br18 =>
          go_simp
          refine hK.out _ _ (by exact ⟨(kX2.alloc (.cells #[.int .i64 0, .slice none 0 0] 34)).get 0 rfl, (kX2.alloc (.cells #[.int .i64 0, .slice none 0 0] 34)).get 1 rfl, (kY2.alloc (.cells #[.int .i64 0, .slice none 0 0] 34)).get 0 rfl, (kY2.alloc (.cells #[.int .i64 0, .slice none 0 0] 34)).get 1 rfl⟩) (fun _ => ?_)
          clear hK K
          refine foldH ?_
          intro r3 hr3
          have bw3 : Below w.heap.size w r3 := by rw [hr3]; exact belA bw2 _
          have kX3 : Blk r3 w.heap.size 31 #[.slice A1 n1 c1, .slice A2 n2 c2] := by rw [hr3]; exact kX2.alloc _
          have kY3 : Blk r3 (w.heap.size + 1) 34 #[.int .i64 sz, .slice A3 n3 c3] := by rw [hr3]; exact kY2.alloc _
          have kRS3 : Blk r3 (w.heap.size + 2) 31 #[.slice none 0 0, .slice none 0 0] := by rw [hr3]; exact kRS2.alloc _
          have kRF3 : Blk r3 (w.heap.size + 3) 34 #[.int .i64 0, .slice none 0 0] := by rw [hr3]; exact kRF2.alloc _
          have kO3 : Blk r3 r1.heap.size 31 #[.slice none 0 0, .slice none 0 0] := by rw [hr3]; exact kO2.alloc _
          have oD23 : r3.ownsRow w.heap.size 4 1 (.slice D2 n1 D2c) n1 (BS S.bs) := by rw [hr3]; exact oD22.alloc _
          have oD33 : r3.ownsRow w.heap.size 9 1 (.slice D3 n2 D3c) n2 (SS S.ds) := by rw [hr3]; exact oD32.alloc _
          have kF3 : Blk r3 r2.heap.size 34 #[.int .i64 0, .slice none 0 0] := by rw [hr3]; exact Blk.new' _ _ _ _ rfl
          have laF3 : w.heap.size ≤ r2.heap.size := bw2.size
          have lq3X : w.heap.size < r2.heap.size := kX2.lt
          have lq3Y : (w.heap.size + 1) < r2.heap.size := kY2.lt
          have lq3RS : (w.heap.size + 2) < r2.heap.size := kRS2.lt
          have lq3RF : (w.heap.size + 3) < r2.heap.size := kRF2.lt
          have lq3O : r1.heap.size < r2.heap.size := kO2.lt
          clear hr3
          refine wpAnyH_ready (rs := [3]) (by kernel_rfl) (by simp) ?_
          refine AllReadyH.cons (o := ?oi22) ?hi22 (fun K hK => ?br22) AllReadyH.nil
          case hi22 => (conv => lhs; simp only [List.getElem?_toArray, List.getElem?_cons_zero, List.getElem?_cons_succ]); try exact rfl
          case br22 =>
            go_simp
            go_at_call 31
            refine (copyFil_impl _ F HF.out _ (HFil.out _ bw3)).mono ?_
            rintro e r4 ⟨_, rfl, hOF, hb4r⟩
            have bw4 : Below w.heap.size w r4 := bw3.trans (hb4r.mono bw3.size)
            have kX4 : Blk r4 w.heap.size 31 #[.slice A1 n1 c1, .slice A2 n2 c2] := kX3.below hb4r kX3.lt
            have kY4 : Blk r4 (w.heap.size + 1) 34 #[.int .i64 sz, .slice A3 n3 c3] := kY3.below hb4r kY3.lt
            have kRS4 : Blk r4 (w.heap.size + 2) 31 #[.slice none 0 0, .slice none 0 0] := kRS3.below hb4r kRS3.lt
            have kRF4 : Blk r4 (w.heap.size + 3) 34 #[.int .i64 0, .slice none 0 0] := kRF3.below hb4r kRF3.lt
            have kO4 : Blk r4 r1.heap.size 31 #[.slice none 0 0, .slice none 0 0] := kO3.below hb4r kO3.lt
            have kF4 : Blk r4 r2.heap.size 34 #[.int .i64 0, .slice none 0 0] := kF3.below hb4r kF3.lt
            have oD24 : r4.ownsRow w.heap.size 4 1 (.slice D2 n1 D2c) n1 (BS S.bs) := own_below oD23 hb4r (Nat.le_refl _)
            have oD34 : r4.ownsRow w.heap.size 9 1 (.slice D3 n2 D3c) n2 (SS S.ds) := own_below oD33 hb4r (Nat.le_refl _)
            obtain ⟨_, rfl, oa⟩ := hOF
            rw [Hl3.out] at oa
            rw [Hsz.out]
            obtain ⟨D4, D4c, rfl, _, _, _⟩ := own_vals oa
            have oD44 := own_more oa bw3.size
            clear oa
            refine hK.out _ _ (by exact ⟨(kX4).get 0 rfl, (kX4).get 1 rfl, (kY4).get 0 rfl, (kY4).get 1 rfl⟩) (fun _ => ?_)
            clear hK K
            refine wpAnyH_ready (rs := [6]) (by kernel_rfl) (by simp) ?_
            refine AllReadyH.cons (o := ?oi23) ?hi23 (fun K hK => ?br23) AllReadyH.nil
            case hi23 => (conv => lhs; simp only [List.getElem?_toArray, List.getElem?_cons_zero, List.getElem?_cons_succ]); try exact rfl
            case br23 =>
              have x5_0 := kO4.get (x := .slice none 0 0) 0 rfl
              have f5_0 := kO4.frozen 0
              have x5_1 := kO4.get (x := .slice none 0 0) 1 rfl
              have f5_1 := kO4.frozen 1
              have lE5 := kO4.lt
              have neX5 : w.heap.size ≠ r1.heap.size := by have := kO4.lt; have := kX4.lt; first | exact Blk.ne_ kX4 kO4 (by decide) | omega
              have neY5 : (w.heap.size + 1) ≠ r1.heap.size := by have := kO4.lt; have := kY4.lt; first | exact Blk.ne_ kY4 kO4 (by decide) | omega
              have neRS5 : (w.heap.size + 2) ≠ r1.heap.size := by have := kO4.lt; have := kRS4.lt; first | exact Blk.ne_ kRS4 kO4 (by decide) | omega
              have neRF5 : (w.heap.size + 3) ≠ r1.heap.size := by have := kO4.lt; have := kRF4.lt; first | exact Blk.ne_ kRF4 kO4 (by decide) | omega
              have neF5 : r2.heap.size ≠ r1.heap.size := by have := kO4.lt; have := kF4.lt; first | exact Blk.ne_ kF4 kO4 (by decide) | omega
              go_simp
              refine hK.out _ _ (by exact ⟨(((kX4).far (p := ⟨r1.heap.size, 0, none⟩) neX5 (.slice D2 n1 D2c)).far (p := ⟨r1.heap.size, 1, none⟩) neX5 (.slice D3 n2 D3c)).get 0 rfl, (((kX4).far (p := ⟨r1.heap.size, 0, none⟩) neX5 (.slice D2 n1 D2c)).far (p := ⟨r1.heap.size, 1, none⟩) neX5 (.slice D3 n2 D3c)).get 1 rfl, (((kY4).far (p := ⟨r1.heap.size, 0, none⟩) neY5 (.slice D2 n1 D2c)).far (p := ⟨r1.heap.size, 1, none⟩) neY5 (.slice D3 n2 D3c)).get 0 rfl, (((kY4).far (p := ⟨r1.heap.size, 0, none⟩) neY5 (.slice D2 n1 D2c)).far (p := ⟨r1.heap.size, 1, none⟩) neY5 (.slice D3 n2 D3c)).get 1 rfl⟩) (fun _ => ?_)
              clear hK K x5_0 f5_0 x5_1 f5_1 lE5
              refine foldH ?_
              intro r5 hr5
              have bw5 : Below w.heap.size w r5 := by rw [hr5]; exact belC (belC (bw4) _ 0 laO2 (.slice D2 n1 D2c)) _ 1 laO2 (.slice D3 n2 D3c)
              have kX5 : Blk r5 w.heap.size 31 #[.slice A1 n1 c1, .slice A2 n2 c2] := by rw [hr5]; exact ((kX4).far (p := ⟨r1.heap.size, 0, none⟩) neX5 (.slice D2 n1 D2c)).far (p := ⟨r1.heap.size, 1, none⟩) neX5 (.slice D3 n2 D3c)
              have kY5 : Blk r5 (w.heap.size + 1) 34 #[.int .i64 sz, .slice A3 n3 c3] := by rw [hr5]; exact ((kY4).far (p := ⟨r1.heap.size, 0, none⟩) neY5 (.slice D2 n1 D2c)).far (p := ⟨r1.heap.size, 1, none⟩) neY5 (.slice D3 n2 D3c)
              have kRS5 : Blk r5 (w.heap.size + 2) 31 #[.slice none 0 0, .slice none 0 0] := by rw [hr5]; exact ((kRS4).far (p := ⟨r1.heap.size, 0, none⟩) neRS5 (.slice D2 n1 D2c)).far (p := ⟨r1.heap.size, 1, none⟩) neRS5 (.slice D3 n2 D3c)
              have kRF5 : Blk r5 (w.heap.size + 3) 34 #[.int .i64 0, .slice none 0 0] := by rw [hr5]; exact ((kRF4).far (p := ⟨r1.heap.size, 0, none⟩) neRF5 (.slice D2 n1 D2c)).far (p := ⟨r1.heap.size, 1, none⟩) neRF5 (.slice D3 n2 D3c)
              have kO5 : Blk r5 r1.heap.size 31 #[.slice D2 n1 D2c, .slice D3 n2 D3c] := by rw [hr5]; exact ((kO4.put 0 (.slice D2 n1 D2c) #[.slice D2 n1 D2c, .slice none 0 0] rfl).put 1 (.slice D3 n2 D3c) #[.slice D2 n1 D2c, .slice D3 n2 D3c] rfl)
              have kF5 : Blk r5 r2.heap.size 34 #[.int .i64 0, .slice none 0 0] := by rw [hr5]; exact ((kF4).far (p := ⟨r1.heap.size, 0, none⟩) neF5 (.slice D2 n1 D2c)).far (p := ⟨r1.heap.size, 1, none⟩) neF5 (.slice D3 n2 D3c)
              have oD25 : r5.ownsRow w.heap.size 4 1 (.slice D2 n1 D2c) n1 (BS S.bs) := by rw [hr5]; exact own_farT (own_farT (oD24) kO4 (by decide) 0 (.slice D2 n1 D2c)) (kO4.put 0 (.slice D2 n1 D2c) #[.slice D2 n1 D2c, .slice none 0 0] rfl) (by decide) 1 (.slice D3 n2 D3c)
              have oD35 : r5.ownsRow w.heap.size 9 1 (.slice D3 n2 D3c) n2 (SS S.ds) := by rw [hr5]; exact own_farT (own_farT (oD34) kO4 (by decide) 0 (.slice D2 n1 D2c)) (kO4.put 0 (.slice D2 n1 D2c) #[.slice D2 n1 D2c, .slice none 0 0] rfl) (by decide) 1 (.slice D3 n2 D3c)
              have oD45 : r5.ownsRow w.heap.size 76 3 (.slice D4 n3 D4c) n3 (XS F.xs) := by rw [hr5]; exact own_farT (own_farT (oD44) kO4 (by decide) 0 (.slice D2 n1 D2c)) (kO4.put 0 (.slice D2 n1 D2c) #[.slice D2 n1 D2c, .slice none 0 0] rfl) (by decide) 1 (.slice D3 n2 D3c)
              clear hr5
              refine wpAnyH_ready (rs := [7]) (by kernel_rfl) (by simp) ?_
              refine AllReadyH.cons (o := ?oi24) ?hi24 (fun K hK => ?br24) AllReadyH.nil
              case hi24 => (conv => lhs; simp only [List.getElem?_toArray, List.getElem?_cons_zero, List.getElem?_cons_succ]); try exact rfl
              case br24 =>
                have x6_0 := kF5.get (x := .int .i64 0) 0 rfl
                have f6_0 := kF5.frozen 0
                have x6_1 := kF5.get (x := .slice none 0 0) 1 rfl
                have f6_1 := kF5.frozen 1
                have lE6 := kF5.lt
                have neX6 : w.heap.size ≠ r2.heap.size := by have := kF5.lt; have := kX5.lt; first | exact Blk.ne_ kX5 kF5 (by decide) | omega
                have neY6 : (w.heap.size + 1) ≠ r2.heap.size := by have := kF5.lt; have := kY5.lt; first | exact Blk.ne_ kY5 kF5 (by decide) | omega
                have neRS6 : (w.heap.size + 2) ≠ r2.heap.size := by have := kF5.lt; have := kRS5.lt; first | exact Blk.ne_ kRS5 kF5 (by decide) | omega
                have neRF6 : (w.heap.size + 3) ≠ r2.heap.size := by have := kF5.lt; have := kRF5.lt; first | exact Blk.ne_ kRF5 kF5 (by decide) | omega
                have neO6 : r1.heap.size ≠ r2.heap.size := by have := kF5.lt; have := kO5.lt; first | exact Blk.ne_ kO5 kF5 (by decide) | omega
                go_simp
                refine hK.out _ _ (by exact ⟨(((kX5).far (p := ⟨r2.heap.size, 0, none⟩) neX6 (.int .i64 sz)).far (p := ⟨r2.heap.size, 1, none⟩) neX6 (.slice D4 n3 D4c)).get 0 rfl, (((kX5).far (p := ⟨r2.heap.size, 0, none⟩) neX6 (.int .i64 sz)).far (p := ⟨r2.heap.size, 1, none⟩) neX6 (.slice D4 n3 D4c)).get 1 rfl, (((kY5).far (p := ⟨r2.heap.size, 0, none⟩) neY6 (.int .i64 sz)).far (p := ⟨r2.heap.size, 1, none⟩) neY6 (.slice D4 n3 D4c)).get 0 rfl, (((kY5).far (p := ⟨r2.heap.size, 0, none⟩) neY6 (.int .i64 sz)).far (p := ⟨r2.heap.size, 1, none⟩) neY6 (.slice D4 n3 D4c)).get 1 rfl⟩) (fun _ => ?_)
                clear hK K x6_0 f6_0 x6_1 f6_1 lE6
                refine foldH ?_
                intro r6 hr6
                have bw6 : Below w.heap.size w r6 := by rw [hr6]; exact belC (belC (bw5) _ 0 laF3 (.int .i64 sz)) _ 1 laF3 (.slice D4 n3 D4c)
                have kX6 : Blk r6 w.heap.size 31 #[.slice A1 n1 c1, .slice A2 n2 c2] := by rw [hr6]; exact ((kX5).far (p := ⟨r2.heap.size, 0, none⟩) neX6 (.int .i64 sz)).far (p := ⟨r2.heap.size, 1, none⟩) neX6 (.slice D4 n3 D4c)
                have kY6 : Blk r6 (w.heap.size + 1) 34 #[.int .i64 sz, .slice A3 n3 c3] := by rw [hr6]; exact ((kY5).far (p := ⟨r2.heap.size, 0, none⟩) neY6 (.int .i64 sz)).far (p := ⟨r2.heap.size, 1, none⟩) neY6 (.slice D4 n3 D4c)
                have kRS6 : Blk r6 (w.heap.size + 2) 31 #[.slice none 0 0, .slice none 0 0] := by rw [hr6]; exact ((kRS5).far (p := ⟨r2.heap.size, 0, none⟩) neRS6 (.int .i64 sz)).far (p := ⟨r2.heap.size, 1, none⟩) neRS6 (.slice D4 n3 D4c)
                have kRF6 : Blk r6 (w.heap.size + 3) 34 #[.int .i64 0, .slice none 0 0] := by rw [hr6]; exact ((kRF5).far (p := ⟨r2.heap.size, 0, none⟩) neRF6 (.int .i64 sz)).far (p := ⟨r2.heap.size, 1, none⟩) neRF6 (.slice D4 n3 D4c)
                have kO6 : Blk r6 r1.heap.size 31 #[.slice D2 n1 D2c, .slice D3 n2 D3c] := by rw [hr6]; exact ((kO5).far (p := ⟨r2.heap.size, 0, none⟩) neO6 (.int .i64 sz)).far (p := ⟨r2.heap.size, 1, none⟩) neO6 (.slice D4 n3 D4c)
                have kF6 : Blk r6 r2.heap.size 34 #[.int .i64 sz, .slice D4 n3 D4c] := by rw [hr6]; exact ((kF5.put 0 (.int .i64 sz) #[.int .i64 sz, .slice none 0 0] rfl).put 1 (.slice D4 n3 D4c) #[.int .i64 sz, .slice D4 n3 D4c] rfl)
                have oD26 : r6.ownsRow w.heap.size 4 1 (.slice D2 n1 D2c) n1 (BS S.bs) := by rw [hr6]; exact own_farT (own_farT (oD25) kF5 (by decide) 0 (.int .i64 sz)) (kF5.put 0 (.int .i64 sz) #[.int .i64 sz, .slice none 0 0] rfl) (by decide) 1 (.slice D4 n3 D4c)
                have oD36 : r6.ownsRow w.heap.size 9 1 (.slice D3 n2 D3c) n2 (SS S.ds) := by rw [hr6]; exact own_farT (own_farT (oD35) kF5 (by decide) 0 (.int .i64 sz)) (kF5.put 0 (.int .i64 sz) #[.int .i64 sz, .slice none 0 0] rfl) (by decide) 1 (.slice D4 n3 D4c)
                have oD46 : r6.ownsRow w.heap.size 76 3 (.slice D4 n3 D4c) n3 (XS F.xs) := by rw [hr6]; exact own_farT (own_farT (oD45) kF5 (by decide) 0 (.int .i64 sz)) (kF5.put 0 (.int .i64 sz) #[.int .i64 sz, .slice none 0 0] rfl) (by decide) 1 (.slice D4 n3 D4c)
                clear hr6
                refine wpAnyH_done (by kernel_rfl) ?_ _
                have hl0 := kRF0.lt
                go_wp2_with fail
                go_meet
                case rel => exact ⟨r1.heap.size, r2.heap.size, D2, D2c, D3, D3c, D4, D4c, rfl, rfl, by have := laO2; have := bw0.size; omega, by omega, Lib.hid kX6, Lib.hid kY6, Lib.hid kRS6, Lib.hid kRF6, Lib.hid kO6, Lib.hid kF6, Lib.hid oD26, Lib.hid oD36, Lib.hid oD46, bw6⟩
      case br8 =>
        go_simp
        refine hK.out _ _ (by exact ⟨(kX1.alloc (.cells #[.int .i64 0, .slice none 0 0] 34)).get 0 rfl, (kX1.alloc (.cells #[.int .i64 0, .slice none 0 0] 34)).get 1 rfl, (kY1.alloc (.cells #[.int .i64 0, .slice none 0 0] 34)).get 0 rfl, (kY1.alloc (.cells #[.int .i64 0, .slice none 0 0] 34)).get 1 rfl⟩) (fun _ => ?_)
        clear hK K
        refine foldH ?_
        intro r2 hr2
        have bw2 : Below w.heap.size w r2 := by rw [hr2]; exact belA bw1 _
        have kX2 : Blk r2 w.heap.size 31 #[.slice A1 n1 c1, .slice A2 n2 c2] := by rw [hr2]; exact kX1.alloc _
        have kY2 : Blk r2 (w.heap.size + 1) 34 #[.int .i64 sz, .slice A3 n3 c3] := by rw [hr2]; exact kY1.alloc _
        have kRS2 : Blk r2 (w.heap.size + 2) 31 #[.slice none 0 0, .slice none 0 0] := by rw [hr2]; exact kRS1.alloc _
        have kRF2 : Blk r2 (w.heap.size + 3) 34 #[.int .i64 0, .slice none 0 0] := by rw [hr2]; exact kRF1.alloc _
        have oD22 : r2.ownsRow w.heap.size 4 1 (.slice D2 n1 D2c) n1 (BS S.bs) := by rw [hr2]; exact oD21.alloc _
        have oD32 : r2.ownsRow w.heap.size 9 1 (.slice D3 n2 D3c) n2 (SS S.ds) := by rw [hr2]; exact oD31.alloc _
        have kF2 : Blk r2 r1.heap.size 34 #[.int .i64 0, .slice none 0 0] := by rw [hr2]; exact Blk.new' _ _ _ _ rfl
        have laF2 : w.heap.size ≤ r1.heap.size := bw1.size
        have lq2X : w.heap.size < r1.heap.size := kX1.lt
        have lq2Y : (w.heap.size + 1) < r1.heap.size := kY1.lt
        have lq2RS : (w.heap.size + 2) < r1.heap.size := kRS1.lt
        have lq2RF : (w.heap.size + 3) < r1.heap.size := kRF1.lt
        clear hr2
        refine wpAnyH_ready (rs := [3, 4]) (by kernel_rfl) (by simp) ?_
        refine AllReadyH.cons (o := ?oi25) ?hi25 (fun K hK => ?br25) (AllReadyH.cons (o := ?oi26) ?hi26 (fun K hK => ?br26) AllReadyH.nil)
        case hi25 => (conv => lhs; simp only [List.getElem?_toArray, List.getElem?_cons_zero, List.getElem?_cons_succ]); try exact rfl
        case hi26 => (conv => lhs; simp only [List.getElem?_toArray, List.getElem?_cons_zero, List.getElem?_cons_succ]); try exact rfl
        case br25 =>
          go_simp
          go_at_call 31
          refine (copyFil_impl _ F HF.out _ (HFil.out _ bw2)).mono ?_
          rintro e r3 ⟨_, rfl, hOF, hb3r⟩
          have bw3 : Below w.heap.size w r3 := bw2.trans (hb3r.mono bw2.size)
          have kX3 : Blk r3 w.heap.size 31 #[.slice A1 n1 c1, .slice A2 n2 c2] := kX2.below hb3r kX2.lt
          have kY3 : Blk r3 (w.heap.size + 1) 34 #[.int .i64 sz, .slice A3 n3 c3] := kY2.below hb3r kY2.lt
          have kRS3 : Blk r3 (w.heap.size + 2) 31 #[.slice none 0 0, .slice none 0 0] := kRS2.below hb3r kRS2.lt
          have kRF3 : Blk r3 (w.heap.size + 3) 34 #[.int .i64 0, .slice none 0 0] := kRF2.below hb3r kRF2.lt
          have kF3 : Blk r3 r1.heap.size 34 #[.int .i64 0, .slice none 0 0] := kF2.below hb3r kF2.lt
          have oD23 : r3.ownsRow w.heap.size 4 1 (.slice D2 n1 D2c) n1 (BS S.bs) := own_below oD22 hb3r (Nat.le_refl _)
          have oD33 : r3.ownsRow w.heap.size 9 1 (.slice D3 n2 D3c) n2 (SS S.ds) := own_below oD32 hb3r (Nat.le_refl _)
          obtain ⟨_, rfl, oa⟩ := hOF
          rw [Hl3.out] at oa
          rw [Hsz.out]
          obtain ⟨D4, D4c, rfl, _, _, _⟩ := own_vals oa
          have oD43 := own_more oa bw2.size
          clear oa
          refine hK.out _ _ (by exact ⟨(kX3).get 0 rfl, (kX3).get 1 rfl, (kY3).get 0 rfl, (kY3).get 1 rfl⟩) (fun _ => ?_)
          clear hK K
          refine wpAnyH_ready (rs := [4]) (by kernel_rfl) (by simp) ?_
          refine AllReadyH.cons (o := ?oi27) ?hi27 (fun K hK => ?br27) AllReadyH.nil
          case hi27 => (conv => lhs; simp only [List.getElem?_toArray, List.getElem?_cons_zero, List.getElem?_cons_succ]); try exact rfl
          case br27 =>
            go_simp
            refine hK.out _ _ (by exact ⟨(kX3.alloc (.cells #[.slice none 0 0, .slice none 0 0] 31)).get 0 rfl, (kX3.alloc (.cells #[.slice none 0 0, .slice none 0 0] 31)).get 1 rfl, (kY3.alloc (.cells #[.slice none 0 0, .slice none 0 0] 31)).get 0 rfl, (kY3.alloc (.cells #[.slice none 0 0, .slice none 0 0] 31)).get 1 rfl⟩) (fun _ => ?_)
            clear hK K
            refine foldH ?_
            intro r4 hr4
            have bw4 : Below w.heap.size w r4 := by rw [hr4]; exact belA bw3 _
            have kX4 : Blk r4 w.heap.size 31 #[.slice A1 n1 c1, .slice A2 n2 c2] := by rw [hr4]; exact kX3.alloc _
            have kY4 : Blk r4 (w.heap.size + 1) 34 #[.int .i64 sz, .slice A3 n3 c3] := by rw [hr4]; exact kY3.alloc _
            have kRS4 : Blk r4 (w.heap.size + 2) 31 #[.slice none 0 0, .slice none 0 0] := by rw [hr4]; exact kRS3.alloc _
            have kRF4 : Blk r4 (w.heap.size + 3) 34 #[.int .i64 0, .slice none 0 0] := by rw [hr4]; exact kRF3.alloc _
            have kF4 : Blk r4 r1.heap.size 34 #[.int .i64 0, .slice none 0 0] := by rw [hr4]; exact kF3.alloc _
            have oD24 : r4.ownsRow w.heap.size 4 1 (.slice D2 n1 D2c) n1 (BS S.bs) := by rw [hr4]; exact oD23.alloc _
            have oD34 : r4.ownsRow w.heap.size 9 1 (.slice D3 n2 D3c) n2 (SS S.ds) := by rw [hr4]; exact oD33.alloc _
            have oD44 : r4.ownsRow w.heap.size 76 3 (.slice D4 n3 D4c) n3 (XS F.xs) := by rw [hr4]; exact oD43.alloc _
            have kO4 : Blk r4 r3.heap.size 31 #[.slice none 0 0, .slice none 0 0] := by rw [hr4]; exact Blk.new' _ _ _ _ rfl
            have laO4 : w.heap.size ≤ r3.heap.size := bw3.size
            have lq4X : w.heap.size < r3.heap.size := kX3.lt
            have lq4Y : (w.heap.size + 1) < r3.heap.size := kY3.lt
            have lq4RS : (w.heap.size + 2) < r3.heap.size := kRS3.lt
            have lq4RF : (w.heap.size + 3) < r3.heap.size := kRF3.lt
            have lq4F : r1.heap.size < r3.heap.size := kF3.lt
            clear hr4
            refine wpAnyH_ready (rs := [6]) (by kernel_rfl) (by simp) ?_
            refine AllReadyH.cons (o := ?oi28) ?hi28 (fun K hK => ?br28) AllReadyH.nil
            case hi28 => (conv => lhs; simp only [List.getElem?_toArray, List.getElem?_cons_zero, List.getElem?_cons_succ]); try exact rfl
            case br28 =>
              have x5_0 := kO4.get (x := .slice none 0 0) 0 rfl
              have f5_0 := kO4.frozen 0
              have x5_1 := kO4.get (x := .slice none 0 0) 1 rfl
              have f5_1 := kO4.frozen 1
              have lE5 := kO4.lt
              have neX5 : w.heap.size ≠ r3.heap.size := by have := kO4.lt; have := kX4.lt; first | exact Blk.ne_ kX4 kO4 (by decide) | omega
              have neY5 : (w.heap.size + 1) ≠ r3.heap.size := by have := kO4.lt; have := kY4.lt; first | exact Blk.ne_ kY4 kO4 (by decide) | omega
              have neRS5 : (w.heap.size + 2) ≠ r3.heap.size := by have := kO4.lt; have := kRS4.lt; first | exact Blk.ne_ kRS4 kO4 (by decide) | omega
              have neRF5 : (w.heap.size + 3) ≠ r3.heap.size := by have := kO4.lt; have := kRF4.lt; first | exact Blk.ne_ kRF4 kO4 (by decide) | omega
              have neF5 : r1.heap.size ≠ r3.heap.size := by have := kO4.lt; have := kF4.lt; first | exact Blk.ne_ kF4 kO4 (by decide) | omega
              go_simp
              refine hK.out _ _ (by exact ⟨(((kX4).far (p := ⟨r3.heap.size, 0, none⟩) neX5 (.slice D2 n1 D2c)).far (p := ⟨r3.heap.size, 1, none⟩) neX5 (.slice D3 n2 D3c)).get 0 rfl, (((kX4).far (p := ⟨r3.heap.size, 0, none⟩) neX5 (.slice D2 n1 D2c)).far (p := ⟨r3.heap.size, 1, none⟩) neX5 (.slice D3 n2 D3c)).get 1 rfl, (((kY4).far (p := ⟨r3.heap.size, 0, none⟩) neY5 (.slice D2 n1 D2c)).far (p := ⟨r3.heap.size, 1, none⟩) neY5 (.slice D3 n2 D3c)).get 0 rfl, (((kY4).far (p := ⟨r3.heap.size, 0, none⟩) neY5 (.slice D2 n1 D2c)).far (p := ⟨r3.heap.size, 1, none⟩) neY5 (.slice D3 n2 D3c)).get 1 rfl⟩) (fun _ => ?_)
              clear hK K x5_0 f5_0 x5_1 f5_1 lE5
              refine foldH ?_
              intro r5 hr5
              have bw5 : Below w.heap.size w r5 := by rw [hr5]; exact belC (belC (bw4) _ 0 laO4 (.slice D2 n1 D2c)) _ 1 laO4 (.slice D3 n2 D3c)
              have kX5 : Blk r5 w.heap.size 31 #[.slice A1 n1 c1, .slice A2 n2 c2] := by rw [hr5]; exact ((kX4).far (p := ⟨r3.heap.size, 0, none⟩) neX5 (.slice D2 n1 D2c)).far (p := ⟨r3.heap.size, 1, none⟩) neX5 (.slice D3 n2 D3c)
              have kY5 : Blk r5 (w.heap.size + 1) 34 #[.int .i64 sz, .slice A3 n3 c3] := by rw [hr5]; exact ((kY4).far (p := ⟨r3.heap.size, 0, none⟩) neY5 (.slice D2 n1 D2c)).far (p := ⟨r3.heap.size, 1, none⟩) neY5 (.slice D3 n2 D3c)
              have kRS5 : Blk r5 (w.heap.size + 2) 31 #[.slice none 0 0, .slice none 0 0] := by rw [hr5]; exact ((kRS4).far (p := ⟨r3.heap.size, 0, none⟩) neRS5 (.slice D2 n1 D2c)).far (p := ⟨r3.heap.size, 1, none⟩) neRS5 (.slice D3 n2 D3c)
              have kRF5 : Blk r5 (w.heap.size + 3) 34 #[.int .i64 0, .slice none 0 0] := by rw [hr5]; exact ((kRF4).far (p := ⟨r3.heap.size, 0, none⟩) neRF5 (.slice D2 n1 D2c)).far (p := ⟨r3.heap.size, 1, none⟩) neRF5 (.slice D3 n2 D3c)
              have kF5 : Blk r5 r1.heap.size 34 #[.int .i64 0, .slice none 0 0] := by rw [hr5]; exact ((kF4).far (p := ⟨r3.heap.size, 0, none⟩) neF5 (.slice D2 n1 D2c)).far (p := ⟨r3.heap.size, 1, none⟩) neF5 (.slice D3 n2 D3c)
              have kO5 : Blk r5 r3.heap.size 31 #[.slice D2 n1 D2c, .slice D3 n2 D3c] := by rw [hr5]; exact ((kO4.put 0 (.slice D2 n1 D2c) #[.slice D2 n1 D2c, .slice none 0 0] rfl).put 1 (.slice D3 n2 D3c) #[.slice D2 n1 D2c, .slice D3 n2 D3c] rfl)
              have oD25 : r5.ownsRow w.heap.size 4 1 (.slice D2 n1 D2c) n1 (BS S.bs) := by rw [hr5]; exact own_farT (own_farT (oD24) kO4 (by decide) 0 (.slice D2 n1 D2c)) (kO4.put 0 (.slice D2 n1 D2c) #[.slice D2 n1 D2c, .slice none 0 0] rfl) (by decide) 1 (.slice D3 n2 D3c)
              have oD35 : r5.ownsRow w.heap.size 9 1 (.slice D3 n2 D3c) n2 (SS S.ds) := by rw [hr5]; exact own_farT (own_farT (oD34) kO4 (by decide) 0 (.slice D2 n1 D2c)) (kO4.put 0 (.slice D2 n1 D2c) #[.slice D2 n1 D2c, .slice none 0 0] rfl) (by decide) 1 (.slice D3 n2 D3c)
              have oD45 : r5.ownsRow w.heap.size 76 3 (.slice D4 n3 D4c) n3 (XS F.xs) := by rw [hr5]; exact own_farT (own_farT (oD44) kO4 (by decide) 0 (.slice D2 n1 D2c)) (kO4.put 0 (.slice D2 n1 D2c) #[.slice D2 n1 D2c, .slice none 0 0] rfl) (by decide) 1 (.slice D3 n2 D3c)
              clear hr5
              refine wpAnyH_ready (rs := [7]) (by kernel_rfl) (by simp) ?_
              refine AllReadyH.cons (o := ?oi29) ?hi29 (fun K hK => ?br29) AllReadyH.nil
              case hi29 => (conv => lhs; simp only [List.getElem?_toArray, List.getElem?_cons_zero, List.getElem?_cons_succ]); try exact rfl
              case br29 =>
                have x6_0 := kF5.get (x := .int .i64 0) 0 rfl
                have f6_0 := kF5.frozen 0
                have x6_1 := kF5.get (x := .slice none 0 0) 1 rfl
                have f6_1 := kF5.frozen 1
                have lE6 := kF5.lt
                have neX6 : w.heap.size ≠ r1.heap.size := by have := kF5.lt; have := kX5.lt; first | exact Blk.ne_ kX5 kF5 (by decide) | omega
                have neY6 : (w.heap.size + 1) ≠ r1.heap.size := by have := kF5.lt; have := kY5.lt; first | exact Blk.ne_ kY5 kF5 (by decide) | omega
                have neRS6 : (w.heap.size + 2) ≠ r1.heap.size := by have := kF5.lt; have := kRS5.lt; first | exact Blk.ne_ kRS5 kF5 (by decide) | omega
                have neRF6 : (w.heap.size + 3) ≠ r1.heap.size := by have := kF5.lt; have := kRF5.lt; first | exact Blk.ne_ kRF5 kF5 (by decide) | omega
                have neO6 : r3.heap.size ≠ r1.heap.size := by have := kF5.lt; have := kO5.lt; first | exact Blk.ne_ kO5 kF5 (by decide) | omega
                go_simp
                refine hK.out _ _ (by exact ⟨(((kX5).far (p := ⟨r1.heap.size, 0, none⟩) neX6 (.int .i64 sz)).far (p := ⟨r1.heap.size, 1, none⟩) neX6 (.slice D4 n3 D4c)).get 0 rfl, (((kX5).far (p := ⟨r1.heap.size, 0, none⟩) neX6 (.int .i64 sz)).far (p := ⟨r1.heap.size, 1, none⟩) neX6 (.slice D4 n3 D4c)).get 1 rfl, (((kY5).far (p := ⟨r1.heap.size, 0, none⟩) neY6 (.int .i64 sz)).far (p := ⟨r1.heap.size, 1, none⟩) neY6 (.slice D4 n3 D4c)).get 0 rfl, (((kY5).far (p := ⟨r1.heap.size, 0, none⟩) neY6 (.int .i64 sz)).far (p := ⟨r1.heap.size, 1, none⟩) neY6 (.slice D4 n3 D4c)).get 1 rfl⟩) (fun _ => ?_)
                clear hK K x6_0 f6_0 x6_1 f6_1 lE6
                refine foldH ?_
                intro r6 hr6
                have bw6 : Below w.heap.size w r6 := by rw [hr6]; exact belC (belC (bw5) _ 0 laF2 (.int .i64 sz)) _ 1 laF2 (.slice D4 n3 D4c)
                have kX6 : Blk r6 w.heap.size 31 #[.slice A1 n1 c1, .slice A2 n2 c2] := by rw [hr6]; exact ((kX5).far (p := ⟨r1.heap.size, 0, none⟩) neX6 (.int .i64 sz)).far (p := ⟨r1.heap.size, 1, none⟩) neX6 (.slice D4 n3 D4c)
                have kY6 : Blk r6 (w.heap.size + 1) 34 #[.int .i64 sz, .slice A3 n3 c3] := by rw [hr6]; exact ((kY5).far (p := ⟨r1.heap.size, 0, none⟩) neY6 (.int .i64 sz)).far (p := ⟨r1.heap.size, 1, none⟩) neY6 (.slice D4 n3 D4c)
                have kRS6 : Blk r6 (w.heap.size + 2) 31 #[.slice none 0 0, .slice none 0 0] := by rw [hr6]; exact ((kRS5).far (p := ⟨r1.heap.size, 0, none⟩) neRS6 (.int .i64 sz)).far (p := ⟨r1.heap.size, 1, none⟩) neRS6 (.slice D4 n3 D4c)
                have kRF6 : Blk r6 (w.heap.size + 3) 34 #[.int .i64 0, .slice none 0 0] := by rw [hr6]; exact ((kRF5).far (p := ⟨r1.heap.size, 0, none⟩) neRF6 (.int .i64 sz)).far (p := ⟨r1.heap.size, 1, none⟩) neRF6 (.slice D4 n3 D4c)
                have kF6 : Blk r6 r1.heap.size 34 #[.int .i64 sz, .slice D4 n3 D4c] := by rw [hr6]; exact ((kF5.put 0 (.int .i64 sz) #[.int .i64 sz, .slice none 0 0] rfl).put 1 (.slice D4 n3 D4c) #[.int .i64 sz, .slice D4 n3 D4c] rfl)
                have kO6 : Blk r6 r3.heap.size 31 #[.slice D2 n1 D2c, .slice D3 n2 D3c] := by rw [hr6]; exact ((kO5).far (p := ⟨r1.heap.size, 0, none⟩) neO6 (.int .i64 sz)).far (p := ⟨r1.heap.size, 1, none⟩) neO6 (.slice D4 n3 D4c)
                have oD26 : r6.ownsRow w.heap.size 4 1 (.slice D2 n1 D2c) n1 (BS S.bs) := by rw [hr6]; exact own_farT (own_farT (oD25) kF5 (by decide) 0 (.int .i64 sz)) (kF5.put 0 (.int .i64 sz) #[.int .i64 sz, .slice none 0 0] rfl) (by decide) 1 (.slice D4 n3 D4c)
                have oD36 : r6.ownsRow w.heap.size 9 1 (.slice D3 n2 D3c) n2 (SS S.ds) := by rw [hr6]; exact own_farT (own_farT (oD35) kF5 (by decide) 0 (.int .i64 sz)) (kF5.put 0 (.int .i64 sz) #[.int .i64 sz, .slice none 0 0] rfl) (by decide) 1 (.slice D4 n3 D4c)
                have oD46 : r6.ownsRow w.heap.size 76 3 (.slice D4 n3 D4c) n3 (XS F.xs) := by rw [hr6]; exact own_farT (own_farT (oD45) kF5 (by decide) 0 (.int .i64 sz)) (kF5.put 0 (.int .i64 sz) #[.int .i64 sz, .slice none 0 0] rfl) (by decide) 1 (.slice D4 n3 D4c)
                clear hr6
                refine wpAnyH_done (by kernel_rfl) ?_ _
                have hl0 := kRF0.lt
                go_wp2_with fail
                go_meet
                case rel => exact ⟨r3.heap.size, r1.heap.size, D2, D2c, D3, D3c, D4, D4c, rfl, rfl, by have := laO4; have := bw0.size; omega, by omega, Lib.hid kX6, Lib.hid kY6, Lib.hid kRS6, Lib.hid kRF6, Lib.hid kO6, Lib.hid kF6, Lib.hid oD26, Lib.hid oD36, Lib.hid oD46, bw6⟩
        case br26 =>
          go_simp
          refine hK.out _ _ (by exact ⟨(kX2.alloc (.cells #[.slice none 0 0, .slice none 0 0] 31)).get 0 rfl, (kX2.alloc (.cells #[.slice none 0 0, .slice none 0 0] 31)).get 1 rfl, (kY2.alloc (.cells #[.slice none 0 0, .slice none 0 0] 31)).get 0 rfl, (kY2.alloc (.cells #[.slice none 0 0, .slice none 0 0] 31)).get 1 rfl⟩) (fun _ => ?_)
          clear hK K
          refine foldH ?_
          intro r3 hr3
          have bw3 : Below w.heap.size w r3 := by rw [hr3]; exact belA bw2 _
          have kX3 : Blk r3 w.heap.size 31 #[.slice A1 n1 c1, .slice A2 n2 c2] := by rw [hr3]; exact kX2.alloc _
          have kY3 : Blk r3 (w.heap.size + 1) 34 #[.int .i64 sz, .slice A3 n3 c3] := by rw [hr3]; exact kY2.alloc _
          have kRS3 : Blk r3 (w.heap.size + 2) 31 #[.slice none 0 0, .slice none 0 0] := by rw [hr3]; exact kRS2.alloc _
          have kRF3 : Blk r3 (w.heap.size + 3) 34 #[.int .i64 0, .slice none 0 0] := by rw [hr3]; exact kRF2.alloc _
          have kF3 : Blk r3 r1.heap.size 34 #[.int .i64 0, .slice none 0 0] := by rw [hr3]; exact kF2.alloc _
          have oD23 : r3.ownsRow w.heap.size 4 1 (.slice D2 n1 D2c) n1 (BS S.bs) := by rw [hr3]; exact oD22.alloc _
          have oD33 : r3.ownsRow w.heap.size 9 1 (.slice D3 n2 D3c) n2 (SS S.ds) := by rw [hr3]; exact oD32.alloc _
          have kO3 : Blk r3 r2.heap.size 31 #[.slice none 0 0, .slice none 0 0] := by rw [hr3]; exact Blk.new' _ _ _ _ rfl
          have laO3 : w.heap.size ≤ r2.heap.size := bw2.size
          have lq3X : w.heap.size < r2.heap.size := kX2.lt
          have lq3Y : (w.heap.size + 1) < r2.heap.size := kY2.lt
          have lq3RS : (w.heap.size + 2) < r2.heap.size := kRS2.lt
          have lq3RF : (w.heap.size + 3) < r2.heap.size := kRF2.lt
          have lq3F : r1.heap.size < r2.heap.size := kF2.lt
          clear hr3
          refine wpAnyH_ready (rs := [3]) (by kernel_rfl) (by simp) ?_
          refine AllReadyH.cons (o := ?oi30) ?hi30 (fun K hK => ?br30) AllReadyH.nil
          case hi30 => (conv => lhs; simp only [List.getElem?_toArray, List.getElem?_cons_zero, List.getElem?_cons_succ]); try exact rfl
          case br30 =>
            go_simp
            go_at_call 31
            refine (copyFil_impl _ F HF.out _ (HFil.out _ bw3)).mono ?_
            rintro e r4 ⟨_, rfl, hOF, hb4r⟩
            have bw4 : Below w.heap.size w r4 := bw3.trans (hb4r.mono bw3.size)
            have kX4 : Blk r4 w.heap.size 31 #[.slice A1 n1 c1, .slice A2 n2 c2] := kX3.below hb4r kX3.lt
            have kY4 : Blk r4 (w.heap.size + 1) 34 #[.int .i64 sz, .slice A3 n3 c3] := kY3.below hb4r kY3.lt
            have kRS4 : Blk r4 (w.heap.size + 2) 31 #[.slice none 0 0, .slice none 0 0] := kRS3.below hb4r kRS3.lt
            have kRF4 : Blk r4 (w.heap.size + 3) 34 #[.int .i64 0, .slice none 0 0] := kRF3.below hb4r kRF3.lt
            have kF4 : Blk r4 r1.heap.size 34 #[.int .i64 0, .slice none 0 0] := kF3.below hb4r kF3.lt
            have kO4 : Blk r4 r2.heap.size 31 #[.slice none 0 0, .slice none 0 0] := kO3.below hb4r kO3.lt
            have oD24 : r4.ownsRow w.heap.size 4 1 (.slice D2 n1 D2c) n1 (BS S.bs) := own_below oD23 hb4r (Nat.le_refl _)
            have oD34 : r4.ownsRow w.heap.size 9 1 (.slice D3 n2 D3c) n2 (SS S.ds) := own_below oD33 hb4r (Nat.le_refl _)
            obtain ⟨_, rfl, oa⟩ := hOF
            rw [Hl3.out] at oa
            rw [Hsz.out]
            obtain ⟨D4, D4c, rfl, _, _, _⟩ := own_vals oa
            have oD44 := own_more oa bw3.size
            clear oa
            refine hK.out _ _ (by exact ⟨(kX4).get 0 rfl, (kX4).get 1 rfl, (kY4).get 0 rfl, (kY4).get 1 rfl⟩) (fun _ => ?_)
            clear hK K
            refine wpAnyH_ready (rs := [6]) (by kernel_rfl) (by simp) ?_
            refine AllReadyH.cons (o := ?oi31) ?hi31 (fun K hK => ?br31) AllReadyH.nil
            case hi31 => (conv => lhs; simp only [List.getElem?_toArray, List.getElem?_cons_zero, List.getElem?_cons_succ]); try exact rfl
            case br31 =>
              have x5_0 := kO4.get (x := .slice none 0 0) 0 rfl
              have f5_0 := kO4.frozen 0
              have x5_1 := kO4.get (x := .slice none 0 0) 1 rfl
              have f5_1 := kO4.frozen 1
              have lE5 := kO4.lt
              have neX5 : w.heap.size ≠ r2.heap.size := by have := kO4.lt; have := kX4.lt; first | exact Blk.ne_ kX4 kO4 (by decide) | omega
              have neY5 : (w.heap.size + 1) ≠ r2.heap.size := by have := kO4.lt; have := kY4.lt; first | exact Blk.ne_ kY4 kO4 (by decide) | omega
              have neRS5 : (w.heap.size + 2) ≠ r2.heap.size := by have := kO4.lt; have := kRS4.lt; first | exact Blk.ne_ kRS4 kO4 (by decide) | omega
              have neRF5 : (w.heap.size + 3) ≠ r2.heap.size := by have := kO4.lt; have := kRF4.lt; first | exact Blk.ne_ kRF4 kO4 (by decide) | omega
              have neF5 : r1.heap.size ≠ r2.heap.size := by have := kO4.lt; have := kF4.lt; first | exact Blk.ne_ kF4 kO4 (by decide) | omega
              go_simp
              refine hK.out _ _ (by exact ⟨(((kX4).far (p := ⟨r2.heap.size, 0, none⟩) neX5 (.slice D2 n1 D2c)).far (p := ⟨r2.heap.size, 1, none⟩) neX5 (.slice D3 n2 D3c)).get 0 rfl, (((kX4).far (p := ⟨r2.heap.size, 0, none⟩) neX5 (.slice D2 n1 D2c)).far (p := ⟨r2.heap.size, 1, none⟩) neX5 (.slice D3 n2 D3c)).get 1 rfl, (((kY4).far (p := ⟨r2.heap.size, 0, none⟩) neY5 (.slice D2 n1 D2c)).far (p := ⟨r2.heap.size, 1, none⟩) neY5 (.slice D3 n2 D3c)).get 0 rfl, (((kY4).far (p := ⟨r2.heap.size, 0, none⟩) neY5 (.slice D2 n1 D2c)).far (p := ⟨r2.heap.size, 1, none⟩) neY5 (.slice D3 n2 D3c)).get 1 rfl⟩) (fun _ => ?_)
              clear hK K x5_0 f5_0 x5_1 f5_1 lE5
              refine foldH ?_
              intro r5 hr5
              have bw5 : Below w.heap.size w r5 := by rw [hr5]; exact belC (belC (bw4) _ 0 laO3 (.slice D2 n1 D2c)) _ 1 laO3 (.slice D3 n2 D3c)
              have kX5 : Blk r5 w.heap.size 31 #[.slice A1 n1 c1, .slice A2 n2 c2] := by rw [hr5]; exact ((kX4).far (p := ⟨r2.heap.size, 0, none⟩) neX5 (.slice D2 n1 D2c)).far (p := ⟨r2.heap.size, 1, none⟩) neX5 (.slice D3 n2 D3c)
              have kY5 : Blk r5 (w.heap.size + 1) 34 #[.int .i64 sz, .slice A3 n3 c3] := by rw [hr5]; exact ((kY4).far (p := ⟨r2.heap.size, 0, none⟩) neY5 (.slice D2 n1 D2c)).far (p := ⟨r2.heap.size, 1, none⟩) neY5 (.slice D3 n2 D3c)
              have kRS5 : Blk r5 (w.heap.size + 2) 31 #[.slice none 0 0, .slice none 0 0] := by rw [hr5]; exact ((kRS4).far (p := ⟨r2.heap.size, 0, none⟩) neRS5 (.slice D2 n1 D2c)).far (p := ⟨r2.heap.size, 1, none⟩) neRS5 (.slice D3 n2 D3c)
              have kRF5 : Blk r5 (w.heap.size + 3) 34 #[.int .i64 0, .slice none 0 0] := by rw [hr5]; exact ((kRF4).far (p := ⟨r2.heap.size, 0, none⟩) neRF5 (.slice D2 n1 D2c)).far (p := ⟨r2.heap.size, 1, none⟩) neRF5 (.slice D3 n2 D3c)
              have kF5 : Blk r5 r1.heap.size 34 #[.int .i64 0, .slice none 0 0] := by rw [hr5]; exact ((kF4).far (p := ⟨r2.heap.size, 0, none⟩) neF5 (.slice D2 n1 D2c)).far (p := ⟨r2.heap.size, 1, none⟩) neF5 (.slice D3 n2 D3c)
              have kO5 : Blk r5 r2.heap.size 31 #[.slice D2 n1 D2c, .slice D3 n2 D3c] := by rw [hr5]; exact ((kO4.put 0 (.slice D2 n1 D2c) #[.slice D2 n1 D2c, .slice none 0 0] rfl).put 1 (.slice D3 n2 D3c) #[.slice D2 n1 D2c, .slice D3 n2 D3c] rfl)
              have oD25 : r5.ownsRow w.heap.size 4 1 (.slice D2 n1 D2c) n1 (BS S.bs) := by rw [hr5]; exact own_farT (own_farT (oD24) kO4 (by decide) 0 (.slice D2 n1 D2c)) (kO4.put 0 (.slice D2 n1 D2c) #[.slice D2 n1 D2c, .slice none 0 0] rfl) (by decide) 1 (.slice D3 n2 D3c)
              have oD35 : r5.ownsRow w.heap.size 9 1 (.slice D3 n2 D3c) n2 (SS S.ds) := by rw [hr5]; exact own_farT (own_farT (oD34) kO4 (by decide) 0 (.slice D2 n1 D2c)) (kO4.put 0 (.slice D2 n1 D2c) #[.slice D2 n1 D2c, .slice none 0 0] rfl) (by decide) 1 (.slice D3 n2 D3c)
              have oD45 : r5.ownsRow w.heap.size 76 3 (.slice D4 n3 D4c) n3 (XS F.xs) := by rw [hr5]; exact own_farT (own_farT (oD44) kO4 (by decide) 0 (.slice D2 n1 D2c)) (kO4.put 0 (.slice D2 n1 D2c) #[.slice D2 n1 D2c, .slice none 0 0] rfl) (by decide) 1 (.slice D3 n2 D3c)
              clear hr5
              refine wpAnyH_ready (rs := [7]) (by kernel_rfl) (by simp) ?_
              refine AllReadyH.cons (o := ?oi32) ?hi32 (fun K hK => ?br32) AllReadyH.nil
              case hi32 => (conv => lhs; simp only [List.getElem?_toArray, List.getElem?_cons_zero, List.getElem?_cons_succ]); try exact rfl
              case br32 =>
                have x6_0 := kF5.get (x := .int .i64 0) 0 rfl
                have f6_0 := kF5.frozen 0
                have x6_1 := kF5.get (x := .slice none 0 0) 1 rfl
                have f6_1 := kF5.frozen 1
                have lE6 := kF5.lt
                have neX6 : w.heap.size ≠ r1.heap.size := by have := kF5.lt; have := kX5.lt; first | exact Blk.ne_ kX5 kF5 (by decide) | omega
                have neY6 : (w.heap.size + 1) ≠ r1.heap.size := by have := kF5.lt; have := kY5.lt; first | exact Blk.ne_ kY5 kF5 (by decide) | omega
                have neRS6 : (w.heap.size + 2) ≠ r1.heap.size := by have := kF5.lt; have := kRS5.lt; first | exact Blk.ne_ kRS5 kF5 (by decide) | omega
                have neRF6 : (w.heap.size + 3) ≠ r1.heap.size := by have := kF5.lt; have := kRF5.lt; first | exact Blk.ne_ kRF5 kF5 (by decide) | omega
                have neO6 : r2.heap.size ≠ r1.heap.size := by have := kF5.lt; have := kO5.lt; first | exact Blk.ne_ kO5 kF5 (by decide) | omega
                go_simp
                refine hK.out _ _ (by exact ⟨(((kX5).far (p := ⟨r1.heap.size, 0, none⟩) neX6 (.int .i64 sz)).far (p := ⟨r1.heap.size, 1, none⟩) neX6 (.slice D4 n3 D4c)).get 0 rfl, (((kX5).far (p := ⟨r1.heap.size, 0, none⟩) neX6 (.int .i64 sz)).far (p := ⟨r1.heap.size, 1, none⟩) neX6 (.slice D4 n3 D4c)).get 1 rfl, (((kY5).far (p := ⟨r1.heap.size, 0, none⟩) neY6 (.int .i64 sz)).far (p := ⟨r1.heap.size, 1, none⟩) neY6 (.slice D4 n3 D4c)).get 0 rfl, (((kY5).far (p := ⟨r1.heap.size, 0, none⟩) neY6 (.int .i64 sz)).far (p := ⟨r1.heap.size, 1, none⟩) neY6 (.slice D4 n3 D4c)).get 1 rfl⟩) (fun _ => ?_)
                clear hK K x6_0 f6_0 x6_1 f6_1 lE6
                refine foldH ?_
                intro r6 hr6
                have bw6 : Below w.heap.size w r6 := by rw [hr6]; exact belC (belC (bw5) _ 0 laF2 (.int .i64 sz)) _ 1 laF2 (.slice D4 n3 D4c)
                have kX6 : Blk r6 w.heap.size 31 #[.slice A1 n1 c1, .slice A2 n2 c2] := by rw [hr6]; exact ((kX5).far (p := ⟨r1.heap.size, 0, none⟩) neX6 (.int .i64 sz)).far (p := ⟨r1.heap.size, 1, none⟩) neX6 (.slice D4 n3 D4c)
                have kY6 : Blk r6 (w.heap.size + 1) 34 #[.int .i64 sz, .slice A3 n3 c3] := by rw [hr6]; exact ((kY5).far (p := ⟨r1.heap.size, 0, none⟩) neY6 (.int .i64 sz)).far (p := ⟨r1.heap.size, 1, none⟩) neY6 (.slice D4 n3 D4c)
                have kRS6 : Blk r6 (w.heap.size + 2) 31 #[.slice none 0 0, .slice none 0 0] := by rw [hr6]; exact ((kRS5).far (p := ⟨r1.heap.size, 0, none⟩) neRS6 (.int .i64 sz)).far (p := ⟨r1.heap.size, 1, none⟩) neRS6 (.slice D4 n3 D4c)
                have kRF6 : Blk r6 (w.heap.size + 3) 34 #[.int .i64 0, .slice none 0 0] := by rw [hr6]; exact ((kRF5).far (p := ⟨r1.heap.size, 0, none⟩) neRF6 (.int .i64 sz)).far (p := ⟨r1.heap.size, 1, none⟩) neRF6 (.slice D4 n3 D4c)
                have kF6 : Blk r6 r1.heap.size 34 #[.int .i64 sz, .slice D4 n3 D4c] := by rw [hr6]; exact ((kF5.put 0 (.int .i64 sz) #[.int .i64 sz, .slice none 0 0] rfl).put 1 (.slice D4 n3 D4c) #[.int .i64 sz, .slice D4 n3 D4c] rfl)
                have kO6 : Blk r6 r2.heap.size 31 #[.slice D2 n1 D2c, .slice D3 n2 D3c] := by rw [hr6]; exact ((kO5).far (p := ⟨r1.heap.size, 0, none⟩) neO6 (.int .i64 sz)).far (p := ⟨r1.heap.size, 1, none⟩) neO6 (.slice D4 n3 D4c)
                have oD26 : r6.ownsRow w.heap.size 4 1 (.slice D2 n1 D2c) n1 (BS S.bs) := by rw [hr6]; exact own_farT (own_farT (oD25) kF5 (by decide) 0 (.int .i64 sz)) (kF5.put 0 (.int .i64 sz) #[.int .i64 sz, .slice none 0 0] rfl) (by decide) 1 (.slice D4 n3 D4c)
                have oD36 : r6.ownsRow w.heap.size 9 1 (.slice D3 n2 D3c) n2 (SS S.ds) := by rw [hr6]; exact own_farT (own_farT (oD35) kF5 (by decide) 0 (.int .i64 sz)) (kF5.put 0 (.int .i64 sz) #[.int .i64 sz, .slice none 0 0] rfl) (by decide) 1 (.slice D4 n3 D4c)
                have oD46 : r6.ownsRow w.heap.size 76 3 (.slice D4 n3 D4c) n3 (XS F.xs) := by rw [hr6]; exact own_farT (own_farT (oD45) kF5 (by decide) 0 (.int .i64 sz)) (kF5.put 0 (.int .i64 sz) #[.int .i64 sz, .slice none 0 0] rfl) (by decide) 1 (.slice D4 n3 D4c)
                clear hr6
                refine wpAnyH_done (by kernel_rfl) ?_ _
                have hl0 := kRF0.lt
                go_wp2_with fail
                go_meet
                case rel => exact ⟨r2.heap.size, r1.heap.size, D2, D2c, D3, D3c, D4, D4c, rfl, rfl, by have := laO3; have := bw0.size; omega, by omega, Lib.hid kX6, Lib.hid kY6, Lib.hid kRS6, Lib.hid kRF6, Lib.hid kO6, Lib.hid kF6, Lib.hid oD26, Lib.hid oD36, Lib.hid oD46, bw6⟩
    case br4 =>
      go_simp
      refine hK.out _ _ (by exact ⟨(kX0.alloc (.cells #[.slice none 0 0, .slice none 0 0] 31)).get 0 rfl, (kX0.alloc (.cells #[.slice none 0 0, .slice none 0 0] 31)).get 1 rfl, (kY0.alloc (.cells #[.slice none 0 0, .slice none 0 0] 31)).get 0 rfl, (kY0.alloc (.cells #[.slice none 0 0, .slice none 0 0] 31)).get 1 rfl⟩) (fun _ => ?_)
      clear hK K
      refine foldH ?_
      intro r1 hr1
      have bw1 : Below w.heap.size w r1 := by rw [hr1]; exact belA bw0 _
      have kX1 : Blk r1 w.heap.size 31 #[.slice A1 n1 c1, .slice A2 n2 c2] := by rw [hr1]; exact kX0.alloc _
      have kY1 : Blk r1 (w.heap.size + 1) 34 #[.int .i64 sz, .slice A3 n3 c3] := by rw [hr1]; exact kY0.alloc _
      have kRS1 : Blk r1 (w.heap.size + 2) 31 #[.slice none 0 0, .slice none 0 0] := by rw [hr1]; exact kRS0.alloc _
      have kRF1 : Blk r1 (w.heap.size + 3) 34 #[.int .i64 0, .slice none 0 0] := by rw [hr1]; exact kRF0.alloc _
      have kO1 : Blk r1 r0.heap.size 31 #[.slice none 0 0, .slice none 0 0] := by rw [hr1]; exact Blk.new' _ _ _ _ rfl
      have laO1 : w.heap.size ≤ r0.heap.size := bw0.size
      have lq1X : w.heap.size < r0.heap.size := kX0.lt
      have lq1Y : (w.heap.size + 1) < r0.heap.size := kY0.lt
      have lq1RS : (w.heap.size + 2) < r0.heap.size := kRS0.lt
      have lq1RF : (w.heap.size + 3) < r0.heap.size := kRF0.lt
      clear hr1
      refine wpAnyH_ready (rs := [1, 5]) (by kernel_rfl) (by simp) ?_
      refine AllReadyH.cons (o := ?oi33) ?hi33 (fun K hK => ?br33) (AllReadyH.cons (o := ?oi34) ?hi34 (fun K hK => ?br34) AllReadyH.nil)
      case hi33 => (conv => lhs; simp only [List.getElem?_toArray, List.getElem?_cons_zero, List.getElem?_cons_succ]); try exact rfl
      case hi34 => (conv => lhs; simp only [List.getElem?_toArray, List.getElem?_cons_zero, List.getElem?_cons_succ]); try exact rfl
      case br33 =>
        go_simp
        go_at_call 30
        refine (copyStore_impl _ S HS.out _ (HSto.out _ bw1)).mono ?_
        rintro e r2 ⟨_, rfl, hOS, hb2r⟩
        have bw2 : Below w.heap.size w r2 := bw1.trans (hb2r.mono bw1.size)
        have kX2 : Blk r2 w.heap.size 31 #[.slice A1 n1 c1, .slice A2 n2 c2] := kX1.below hb2r kX1.lt
        have kY2 : Blk r2 (w.heap.size + 1) 34 #[.int .i64 sz, .slice A3 n3 c3] := kY1.below hb2r kY1.lt
        have kRS2 : Blk r2 (w.heap.size + 2) 31 #[.slice none 0 0, .slice none 0 0] := kRS1.below hb2r kRS1.lt
        have kRF2 : Blk r2 (w.heap.size + 3) 34 #[.int .i64 0, .slice none 0 0] := kRF1.below hb2r kRF1.lt
        have kO2 : Blk r2 r0.heap.size 31 #[.slice none 0 0, .slice none 0 0] := kO1.below hb2r kO1.lt
        obtain ⟨_, _, rfl, oa, ob⟩ := hOS
        rw [Hl1.out] at oa
        rw [Hl2.out] at ob
        obtain ⟨D2, D2c, rfl, _, _, _⟩ := own_vals oa
        obtain ⟨D3, D3c, rfl, _, _, _⟩ := own_vals ob
        have oD22 := own_more oa bw1.size
        have oD32 := own_more ob bw1.size
        clear oa ob
        refine hK.out _ _ (by exact ⟨(kX2).get 0 rfl, (kX2).get 1 rfl, (kY2).get 0 rfl, (kY2).get 1 rfl⟩) (fun _ => ?_)
        clear hK K
        refine wpAnyH_ready (rs := [3, 5]) (by kernel_rfl) (by simp) ?_
        refine AllReadyH.cons (o := ?oi35) ?hi35 (fun K hK => ?br35) (AllReadyH.cons (o := ?oi36) ?hi36 (fun K hK => ?br36) AllReadyH.nil)
        case hi35 => (conv => lhs; simp only [List.getElem?_toArray, List.getElem?_cons_zero, List.getElem?_cons_succ]); try exact rfl
        case hi36 => (conv => lhs; simp only [List.getElem?_toArray, List.getElem?_cons_zero, List.getElem?_cons_succ]); try exact rfl
        case br35 =>
          go_simp
          go_at_call 31
          refine (copyFil_impl _ F HF.out _ (HFil.out _ bw2)).mono ?_
          rintro e r3 ⟨_, rfl, hOF, hb3r⟩
          have bw3 : Below w.heap.size w r3 := bw2.trans (hb3r.mono bw2.size)
          have kX3 : Blk r3 w.heap.size 31 #[.slice A1 n1 c1, .slice A2 n2 c2] := kX2.below hb3r kX2.lt
          have kY3 : Blk r3 (w.heap.size + 1) 34 #[.int .i64 sz, .slice A3 n3 c3] := kY2.below hb3r kY2.lt
          have kRS3 : Blk r3 (w.heap.size + 2) 31 #[.slice none 0 0, .slice none 0 0] := kRS2.below hb3r kRS2.lt
          have kRF3 : Blk r3 (w.heap.size + 3) 34 #[.int .i64 0, .slice none 0 0] := kRF2.below hb3r kRF2.lt
          have kO3 : Blk r3 r0.heap.size 31 #[.slice none 0 0, .slice none 0 0] := kO2.below hb3r kO2.lt
          have oD23 : r3.ownsRow w.heap.size 4 1 (.slice D2 n1 D2c) n1 (BS S.bs) := own_below oD22 hb3r (Nat.le_refl _)
          have oD33 : r3.ownsRow w.heap.size 9 1 (.slice D3 n2 D3c) n2 (SS S.ds) := own_below oD32 hb3r (Nat.le_refl _)
          obtain ⟨_, rfl, oa⟩ := hOF
          rw [Hl3.out] at oa
          rw [Hsz.out]
          obtain ⟨D4, D4c, rfl, _, _, _⟩ := own_vals oa
          have oD43 := own_more oa bw2.size
          clear oa
          refine hK.out _ _ (by exact ⟨(kX3).get 0 rfl, (kX3).get 1 rfl, (kY3).get 0 rfl, (kY3).get 1 rfl⟩) (fun _ => ?_)
          clear hK K
          refine wpAnyH_ready (rs := [5]) (by kernel_rfl) (by simp) ?_
          refine AllReadyH.cons (o := ?oi37) ?hi37 (fun K hK => ?br37) AllReadyH.nil
          case hi37 => (conv => lhs; simp only [List.getElem?_toArray, List.getElem?_cons_zero, List.getElem?_cons_succ]); try exact rfl
          case br37 =>
            go_simp
            refine hK.out _ _ (by exact ⟨(kX3.alloc (.cells #[.int .i64 0, .slice none 0 0] 34)).get 0 rfl, (kX3.alloc (.cells #[.int .i64 0, .slice none 0 0] 34)).get 1 rfl, (kY3.alloc (.cells #[.int .i64 0, .slice none 0 0] 34)).get 0 rfl, (kY3.alloc (.cells #[.int .i64 0, .slice none 0 0] 34)).get 1 rfl⟩) (fun _ => ?_)
            clear hK K
            refine foldH ?_
            intro r4 hr4
            have bw4 : Below w.heap.size w r4 := by rw [hr4]; exact belA bw3 _
            have kX4 : Blk r4 w.heap.size 31 #[.slice A1 n1 c1, .slice A2 n2 c2] := by rw [hr4]; exact kX3.alloc _
            have kY4 : Blk r4 (w.heap.size + 1) 34 #[.int .i64 sz, .slice A3 n3 c3] := by rw [hr4]; exact kY3.alloc _
            have kRS4 : Blk r4 (w.heap.size + 2) 31 #[.slice none 0 0, .slice none 0 0] := by rw [hr4]; exact kRS3.alloc _
            have kRF4 : Blk r4 (w.heap.size + 3) 34 #[.int .i64 0, .slice none 0 0] := by rw [hr4]; exact kRF3.alloc _
            have kO4 : Blk r4 r0.heap.size 31 #[.slice none 0 0, .slice none 0 0] := by rw [hr4]; exact kO3.alloc _
            have oD24 : r4.ownsRow w.heap.size 4 1 (.slice D2 n1 D2c) n1 (BS S.bs) := by rw [hr4]; exact oD23.alloc _
            have oD34 : r4.ownsRow w.heap.size 9 1 (.slice D3 n2 D3c) n2 (SS S.ds) := by rw [hr4]; exact oD33.alloc _
            have oD44 : r4.ownsRow w.heap.size 76 3 (.slice D4 n3 D4c) n3 (XS F.xs) := by rw [hr4]; exact oD43.alloc _
            have kF4 : Blk r4 r3.heap.size 34 #[.int .i64 0, .slice none 0 0] := by rw [hr4]; exact Blk.new' _ _ _ _ rfl
            have laF4 : w.heap.size ≤ r3.heap.size := bw3.size
            have lq4X : w.heap.size < r3.heap.size := kX3.lt
            have lq4Y : (w.heap.size + 1) < r3.heap.size := kY3.lt
            have lq4RS : (w.heap.size + 2) < r3.heap.size := kRS3.lt
            have lq4RF : (w.heap.size + 3) < r3.heap.size := kRF3.lt
            have lq4O : r0.heap.size < r3.heap.size := kO3.lt
            clear hr4
            refine wpAnyH_ready (rs := [6]) (by kernel_rfl) (by simp) ?_
            refine AllReadyH.cons (o := ?oi38) ?hi38 (fun K hK => ?br38) AllReadyH.nil
            case hi38 => (conv => lhs; simp only [List.getElem?_toArray, List.getElem?_cons_zero, List.getElem?_cons_succ]); try exact rfl
            case br38 =>
              have x5_0 := kO4.get (x := .slice none 0 0) 0 rfl
              have f5_0 := kO4.frozen 0
              have x5_1 := kO4.get (x := .slice none 0 0) 1 rfl
              have f5_1 := kO4.frozen 1
              have lE5 := kO4.lt
              have neX5 : w.heap.size ≠ r0.heap.size := by have := kO4.lt; have := kX4.lt; first | exact Blk.ne_ kX4 kO4 (by decide) | omega
              have neY5 : (w.heap.size + 1) ≠ r0.heap.size := by have := kO4.lt; have := kY4.lt; first | exact Blk.ne_ kY4 kO4 (by decide) | omega
              have neRS5 : (w.heap.size + 2) ≠ r0.heap.size := by have := kO4.lt; have := kRS4.lt; first | exact Blk.ne_ kRS4 kO4 (by decide) | omega
              have neRF5 : (w.heap.size + 3) ≠ r0.heap.size := by have := kO4.lt; have := kRF4.lt; first | exact Blk.ne_ kRF4 kO4 (by decide) | omega
              have neF5 : r3.heap.size ≠ r0.heap.size := by have := kO4.lt; have := kF4.lt; first | exact Blk.ne_ kF4 kO4 (by decide) | omega
              go_simp
              refine hK.out _ _ (by exact ⟨(((kX4).far (p := ⟨r0.heap.size, 0, none⟩) neX5 (.slice D2 n1 D2c)).far (p := ⟨r0.heap.size, 1, none⟩) neX5 (.slice D3 n2 D3c)).get 0 rfl, (((kX4).far (p := ⟨r0.heap.size, 0, none⟩) neX5 (.slice D2 n1 D2c)).far (p := ⟨r0.heap.size, 1, none⟩) neX5 (.slice D3 n2 D3c)).get 1 rfl, (((kY4).far (p := ⟨r0.heap.size, 0, none⟩) neY5 (.slice D2 n1 D2c)).far (p := ⟨r0.heap.size, 1, none⟩) neY5 (.slice D3 n2 D3c)).get 0 rfl, (((kY4).far (p := ⟨r0.heap.size, 0, none⟩) neY5 (.slice D2 n1 D2c)).far (p := ⟨r0.heap.size, 1, none⟩) neY5 (.slice D3 n2 D3c)).get 1 rfl⟩) (fun _ => ?_)
              clear hK K x5_0 f5_0 x5_1 f5_1 lE5
              refine foldH ?_
              intro r5 hr5
              have bw5 : Below w.heap.size w r5 := by rw [hr5]; exact belC (belC (bw4) _ 0 laO1 (.slice D2 n1 D2c)) _ 1 laO1 (.slice D3 n2 D3c)
              have kX5 : Blk r5 w.heap.size 31 #[.slice A1 n1 c1, .slice A2 n2 c2] := by rw [hr5]; exact ((kX4).far (p := ⟨r0.heap.size, 0, none⟩) neX5 (.slice D2 n1 D2c)).far (p := ⟨r0.heap.size, 1, none⟩) neX5 (.slice D3 n2 D3c)
              have kY5 : Blk r5 (w.heap.size + 1) 34 #[.int .i64 sz, .slice A3 n3 c3] := by rw [hr5]; exact ((kY4).far (p := ⟨r0.heap.size, 0, none⟩) neY5 (.slice D2 n1 D2c)).far (p := ⟨r0.heap.size, 1, none⟩) neY5 (.slice D3 n2 D3c)
              have kRS5 : Blk r5 (w.heap.size + 2) 31 #[.slice none 0 0, .slice none 0 0] := by rw [hr5]; exact ((kRS4).far (p := ⟨r0.heap.size, 0, none⟩) neRS5 (.slice D2 n1 D2c)).far (p := ⟨r0.heap.size, 1, none⟩) neRS5 (.slice D3 n2 D3c)
              have kRF5 : Blk r5 (w.heap.size + 3) 34 #[.int .i64 0, .slice none 0 0] := by rw [hr5]; exact ((kRF4).far (p := ⟨r0.heap.size, 0, none⟩) neRF5 (.slice D2 n1 D2c)).far (p := ⟨r0.heap.size, 1, none⟩) neRF5 (.slice D3 n2 D3c)
              have kO5 : Blk r5 r0.heap.size 31 #[.slice D2 n1 D2c, .slice D3 n2 D3c] := by rw [hr5]; exact ((kO4.put 0 (.slice D2 n1 D2c) #[.slice D2 n1 D2c, .slice none 0 0] rfl).put 1 (.slice D3 n2 D3c) #[.slice D2 n1 D2c, .slice D3 n2 D3c] rfl)
              have kF5 : Blk r5 r3.heap.size 34 #[.int .i64 0, .slice none 0 0] := by rw [hr5]; exact ((kF4).far (p := ⟨r0.heap.size, 0, none⟩) neF5 (.slice D2 n1 D2c)).far (p := ⟨r0.heap.size, 1, none⟩) neF5 (.slice D3 n2 D3c)
              have oD25 : r5.ownsRow w.heap.size 4 1 (.slice D2 n1 D2c) n1 (BS S.bs) := by rw [hr5]; exact own_farT (own_farT (oD24) kO4 (by decide) 0 (.slice D2 n1 D2c)) (kO4.put 0 (.slice D2 n1 D2c) #[.slice D2 n1 D2c, .slice none 0 0] rfl) (by decide) 1 (.slice D3 n2 D3c)
              have oD35 : r5.ownsRow w.heap.size 9 1 (.slice D3 n2 D3c) n2 (SS S.ds) := by rw [hr5]; exact own_farT (own_farT (oD34) kO4 (by decide) 0 (.slice D2 n1 D2c)) (kO4.put 0 (.slice D2 n1 D2c) #[.slice D2 n1 D2c, .slice none 0 0] rfl) (by decide) 1 (.slice D3 n2 D3c)
              have oD45 : r5.ownsRow w.heap.size 76 3 (.slice D4 n3 D4c) n3 (XS F.xs) := by rw [hr5]; exact own_farT (own_farT (oD44) kO4 (by decide) 0 (.slice D2 n1 D2c)) (kO4.put 0 (.slice D2 n1 D2c) #[.slice D2 n1 D2c, .slice none 0 0] rfl) (by decide) 1 (.slice D3 n2 D3c)
              clear hr5
              refine wpAnyH_ready (rs := [7]) (by kernel_rfl) (by simp) ?_
              refine AllReadyH.cons (o := ?oi39) ?hi39 (fun K hK => ?br39) AllReadyH.nil
              case hi39 => (conv => lhs; simp only [List.getElem?_toArray, List.getElem?_cons_zero, List.getElem?_cons_succ]); try exact rfl
              case br39 =>
                have x6_0 := kF5.get (x := .int .i64 0) 0 rfl
                have f6_0 := kF5.frozen 0
                have x6_1 := kF5.get (x := .slice none 0 0) 1 rfl
                have f6_1 := kF5.frozen 1
                have lE6 := kF5.lt
                have neX6 : w.heap.size ≠ r3.heap.size := by have := kF5.lt; have := kX5.lt; first | exact Blk.ne_ kX5 kF5 (by decide) | omega
                have neY6 : (w.heap.size + 1) ≠ r3.heap.size := by have := kF5.lt; have := kY5.lt; first | exact Blk.ne_ kY5 kF5 (by decide) | omega
                have neRS6 : (w.heap.size + 2) ≠ r3.heap.size := by have := kF5.lt; have := kRS5.lt; first | exact Blk.ne_ kRS5 kF5 (by decide) | omega
                have neRF6 : (w.heap.size + 3) ≠ r3.heap.size := by have := kF5.lt; have := kRF5.lt; first | exact Blk.ne_ kRF5 kF5 (by decide) | omega
                have neO6 : r0.heap.size ≠ r3.heap.size := by have := kF5.lt; have := kO5.lt; first | exact Blk.ne_ kO5 kF5 (by decide) | omega
                go_simp
                refine hK.out _ _ (by exact ⟨(((kX5).far (p := ⟨r3.heap.size, 0, none⟩) neX6 (.int .i64 sz)).far (p := ⟨r3.heap.size, 1, none⟩) neX6 (.slice D4 n3 D4c)).get 0 rfl, (((kX5).far (p := ⟨r3.heap.size, 0, none⟩) neX6 (.int .i64 sz)).far (p := ⟨r3.heap.size, 1, none⟩) neX6 (.slice D4 n3 D4c)).get 1 rfl, (((kY5).far (p := ⟨r3.heap.size, 0, none⟩) neY6 (.int .i64 sz)).far (p := ⟨r3.heap.size, 1, none⟩) neY6 (.slice D4 n3 D4c)).get 0 rfl, (((kY5).far (p := ⟨r3.heap.size, 0, none⟩) neY6 (.int .i64 sz)).far (p := ⟨r3.heap.size, 1, none⟩) neY6 (.slice D4 n3 D4c)).get 1 rfl⟩) (fun _ => ?_)
                clear hK K x6_0 f6_0 x6_1 f6_1 lE6
                refine foldH ?_
                intro r6 hr6
                have bw6 : Below w.heap.size w r6 := by rw [hr6]; exact belC (belC (bw5) _ 0 laF4 (.int .i64 sz)) _ 1 laF4 (.slice D4 n3 D4c)
                have kX6 : Blk r6 w.heap.size 31 #[.slice A1 n1 c1, .slice A2 n2 c2] := by rw [hr6]; exact ((kX5).far (p := ⟨r3.heap.size, 0, none⟩) neX6 (.int .i64 sz)).far (p := ⟨r3.heap.size, 1, none⟩) neX6 (.slice D4 n3 D4c)
                have kY6 : Blk r6 (w.heap.size + 1) 34 #[.int .i64 sz, .slice A3 n3 c3] := by rw [hr6]; exact ((kY5).far (p := ⟨r3.heap.size, 0, none⟩) neY6 (.int .i64 sz)).far (p := ⟨r3.heap.size, 1, none⟩) neY6 (.slice D4 n3 D4c)
                have kRS6 : Blk r6 (w.heap.size + 2) 31 #[.slice none 0 0, .slice none 0 0] := by rw [hr6]; exact ((kRS5).far (p := ⟨r3.heap.size, 0, none⟩) neRS6 (.int .i64 sz)).far (p := ⟨r3.heap.size, 1, none⟩) neRS6 (.slice D4 n3 D4c)
                have kRF6 : Blk r6 (w.heap.size + 3) 34 #[.int .i64 0, .slice none 0 0] := by rw [hr6]; exact ((kRF5).far (p := ⟨r3.heap.size, 0, none⟩) neRF6 (.int .i64 sz)).far (p := ⟨r3.heap.size, 1, none⟩) neRF6 (.slice D4 n3 D4c)
                have kO6 : Blk r6 r0.heap.size 31 #[.slice D2 n1 D2c, .slice D3 n2 D3c] := by rw [hr6]; exact ((kO5).far (p := ⟨r3.heap.size, 0, none⟩) neO6 (.int .i64 sz)).far (p := ⟨r3.heap.size, 1, none⟩) neO6 (.slice D4 n3 D4c)
                have kF6 : Blk r6 r3.heap.size 34 #[.int .i64 sz, .slice D4 n3 D4c] := by rw [hr6]; exact ((kF5.put 0 (.int .i64 sz) #[.int .i64 sz, .slice none 0 0] rfl).put 1 (.slice D4 n3 D4c) #[.int .i64 sz, .slice D4 n3 D4c] rfl)
                have oD26 : r6.ownsRow w.heap.size 4 1 (.slice D2 n1 D2c) n1 (BS S.bs) := by rw [hr6]; exact own_farT (own_farT (oD25) kF5 (by decide) 0 (.int .i64 sz)) (kF5.put 0 (.int .i64 sz) #[.int .i64 sz, .slice none 0 0] rfl) (by decide) 1 (.slice D4 n3 D4c)
                have oD36 : r6.ownsRow w.heap.size 9 1 (.slice D3 n2 D3c) n2 (SS S.ds) := by rw [hr6]; exact own_farT (own_farT (oD35) kF5 (by decide) 0 (.int .i64 sz)) (kF5.put 0 (.int .i64 sz) #[.int .i64 sz, .slice none 0 0] rfl) (by decide) 1 (.slice D4 n3 D4c)
                have oD46 : r6.ownsRow w.heap.size 76 3 (.slice D4 n3 D4c) n3 (XS F.xs) := by rw [hr6]; exact own_farT (own_farT (oD45) kF5 (by decide) 0 (.int .i64 sz)) (kF5.put 0 (.int .i64 sz) #[.int .i64 sz, .slice none 0 0] rfl) (by decide) 1 (.slice D4 n3 D4c)
                clear hr6
                refine wpAnyH_done (by kernel_rfl) ?_ _
                have hl0 := kRF0.lt
                go_wp2_with fail
                go_meet
                case rel => exact ⟨r0.heap.size, r3.heap.size, D2, D2c, D3, D3c, D4, D4c, rfl, rfl, by have := laO1; have := bw0.size; omega, by omega, Lib.hid kX6, Lib.hid kY6, Lib.hid kRS6, Lib.hid kRF6, Lib.hid kO6, Lib.hid kF6, Lib.hid oD26, Lib.hid oD36, Lib.hid oD46, bw6⟩
        case br36 =>
          go_simp
          refine hK.out _ _ (by exact ⟨(kX2.alloc (.cells #[.int .i64 0, .slice none 0 0] 34)).get 0 rfl, (kX2.alloc (.cells #[.int .i64 0, .slice none 0 0] 34)).get 1 rfl, (kY2.alloc (.cells #[.int .i64 0, .slice none 0 0] 34)).get 0 rfl, (kY2.alloc (.cells #[.int .i64 0, .slice none 0 0] 34)).get 1 rfl⟩) (fun _ => ?_)
          clear hK K
          refine foldH ?_
          intro r3 hr3
          have bw3 : Below w.heap.size w r3 := by rw [hr3]; exact belA bw2 _
          have kX3 : Blk r3 w.heap.size 31 #[.slice A1 n1 c1, .slice A2 n2 c2] := by rw [hr3]; exact kX2.alloc _
          have kY3 : Blk r3 (w.heap.size + 1) 34 #[.int .i64 sz, .slice A3 n3 c3] := by rw [hr3]; exact kY2.alloc _
          have kRS3 : Blk r3 (w.heap.size + 2) 31 #[.slice none 0 0, .slice none 0 0] := by rw [hr3]; exact kRS2.alloc _
          have kRF3 : Blk r3 (w.heap.size + 3) 34 #[.int .i64 0, .slice none 0 0] := by rw [hr3]; exact kRF2.alloc _
          have kO3 : Blk r3 r0.heap.size 31 #[.slice none 0 0, .slice none 0 0] := by rw [hr3]; exact kO2.alloc _
          have oD23 : r3.ownsRow w.heap.size 4 1 (.slice D2 n1 D2c) n1 (BS S.bs) := by rw [hr3]; exact oD22.alloc _
          have oD33 : r3.ownsRow w.heap.size 9 1 (.slice D3 n2 D3c) n2 (SS S.ds) := by rw [hr3]; exact oD32.alloc _
          have kF3 : Blk r3 r2.heap.size 34 #[.int .i64 0, .slice none 0 0] := by rw [hr3]; exact Blk.new' _ _ _ _ rfl
          have laF3 : w.heap.size ≤ r2.heap.size := bw2.size
          have lq3X : w.heap.size < r2.heap.size := kX2.lt
          have lq3Y : (w.heap.size + 1) < r2.heap.size := kY2.lt
          have lq3RS : (w.heap.size + 2) < r2.heap.size := kRS2.lt
          have lq3RF : (w.heap.size + 3) < r2.heap.size := kRF2.lt
          have lq3O : r0.heap.size < r2.heap.size := kO2.lt
          clear hr3
          refine wpAnyH_ready (rs := [3]) (by kernel_rfl) (by simp) ?_
          refine AllReadyH.cons (o := ?oi40) ?hi40 (fun K hK => ?br40) AllReadyH.nil
          case hi40 => (conv => lhs; simp only [List.getElem?_toArray, List.getElem?_cons_zero, List.getElem?_cons_succ]); try exact rfl
          case br40 =>
            go_simp
            go_at_call 31
            refine (copyFil_impl _ F HF.out _ (HFil.out _ bw3)).mono ?_
            rintro e r4 ⟨_, rfl, hOF, hb4r⟩
            have bw4 : Below w.heap.size w r4 := bw3.trans (hb4r.mono bw3.size)
            have kX4 : Blk r4 w.heap.size 31 #[.slice A1 n1 c1, .slice A2 n2 c2] := kX3.below hb4r kX3.lt
            have kY4 : Blk r4 (w.heap.size + 1) 34 #[.int .i64 sz, .slice A3 n3 c3] := kY3.below hb4r kY3.lt
            have kRS4 : Blk r4 (w.heap.size + 2) 31 #[.slice none 0 0, .slice none 0 0] := kRS3.below hb4r kRS3.lt
            have kRF4 : Blk r4 (w.heap.size + 3) 34 #[.int .i64 0, .slice none 0 0] := kRF3.below hb4r kRF3.lt
            have kO4 : Blk r4 r0.heap.size 31 #[.slice none 0 0, .slice none 0 0] := kO3.below hb4r kO3.lt
            have kF4 : Blk r4 r2.heap.size 34 #[.int .i64 0, .slice none 0 0] := kF3.below hb4r kF3.lt
            have oD24 : r4.ownsRow w.heap.size 4 1 (.slice D2 n1 D2c) n1 (BS S.bs) := own_below oD23 hb4r (Nat.le_refl _)
            have oD34 : r4.ownsRow w.heap.size 9 1 (.slice D3 n2 D3c) n2 (SS S.ds) := own_below oD33 hb4r (Nat.le_refl _)
            obtain ⟨_, rfl, oa⟩ := hOF
            rw [Hl3.out] at oa
            rw [Hsz.out]
            obtain ⟨D4, D4c, rfl, _, _, _⟩ := own_vals oa
            have oD44 := own_more oa bw3.size
            clear oa
            refine hK.out _ _ (by exact ⟨(kX4).get 0 rfl, (kX4).get 1 rfl, (kY4).get 0 rfl, (kY4).get 1 rfl⟩) (fun _ => ?_)
            clear hK K
            refine wpAnyH_ready (rs := [6]) (by kernel_rfl) (by simp) ?_
            refine AllReadyH.cons (o := ?oi41) ?hi41 (fun K hK => ?br41) AllReadyH.nil
            case hi41 => (conv => lhs; simp only [List.getElem?_toArray, List.getElem?_cons_zero, List.getElem?_cons_succ]); try exact rfl
            case br41 =>
              have x5_0 := kO4.get (x := .slice none 0 0) 0 rfl
              have f5_0 := kO4.frozen 0
              have x5_1 := kO4.get (x := .slice none 0 0) 1 rfl
              have f5_1 := kO4.frozen 1
              have lE5 := kO4.lt
              have neX5 : w.heap.size ≠ r0.heap.size := by have := kO4.lt; have := kX4.lt; first | exact Blk.ne_ kX4 kO4 (by decide) | omega
              have neY5 : (w.heap.size + 1) ≠ r0.heap.size := by have := kO4.lt; have := kY4.lt; first | exact Blk.ne_ kY4 kO4 (by decide) | omega
              have neRS5 : (w.heap.size + 2) ≠ r0.heap.size := by have := kO4.lt; have := kRS4.lt; first | exact Blk.ne_ kRS4 kO4 (by decide) | omega
              have neRF5 : (w.heap.size + 3) ≠ r0.heap.size := by have := kO4.lt; have := kRF4.lt; first | exact Blk.ne_ kRF4 kO4 (by decide) | omega
              have neF5 : r2.heap.size ≠ r0.heap.size := by have := kO4.lt; have := kF4.lt; first | exact Blk.ne_ kF4 kO4 (by decide) | omega
              go_simp
              refine hK.out _ _ (by exact ⟨(((kX4).far (p := ⟨r0.heap.size, 0, none⟩) neX5 (.slice D2 n1 D2c)).far (p := ⟨r0.heap.size, 1, none⟩) neX5 (.slice D3 n2 D3c)).get 0 rfl, (((kX4).far (p := ⟨r0.heap.size, 0, none⟩) neX5 (.slice D2 n1 D2c)).far (p := ⟨r0.heap.size, 1, none⟩) neX5 (.slice D3 n2 D3c)).get 1 rfl, (((kY4).far (p := ⟨r0.heap.size, 0, none⟩) neY5 (.slice D2 n1 D2c)).far (p := ⟨r0.heap.size, 1, none⟩) neY5 (.slice D3 n2 D3c)).get 0 rfl, (((kY4).far (p := ⟨r0.heap.size, 0, none⟩) neY5 (.slice D2 n1 D2c)).far (p := ⟨r0.heap.size, 1, none⟩) neY5 (.slice D3 n2 D3c)).get 1 rfl⟩) (fun _ => ?_)
              clear hK K x5_0 f5_0 x5_1 f5_1 lE5
              refine foldH ?_
              intro r5 hr5
              have bw5 : Below w.heap.size w r5 := by rw [hr5]; exact belC (belC (bw4) _ 0 laO1 (.slice D2 n1 D2c)) _ 1 laO1 (.slice D3 n2 D3c)
              have kX5 : Blk r5 w.heap.size 31 #[.slice A1 n1 c1, .slice A2 n2 c2] := by rw [hr5]; exact ((kX4).far (p := ⟨r0.heap.size, 0, none⟩) neX5 (.slice D2 n1 D2c)).far (p := ⟨r0.heap.size, 1, none⟩) neX5 (.slice D3 n2 D3c)
              have kY5 : Blk r5 (w.heap.size + 1) 34 #[.int .i64 sz, .slice A3 n3 c3] := by rw [hr5]; exact ((kY4).far (p := ⟨r0.heap.size, 0, none⟩) neY5 (.slice D2 n1 D2c)).far (p := ⟨r0.heap.size, 1, none⟩) neY5 (.slice D3 n2 D3c)
              have kRS5 : Blk r5 (w.heap.size + 2) 31 #[.slice none 0 0, .slice none 0 0] := by rw [hr5]; exact ((kRS4).far (p := ⟨r0.heap.size, 0, none⟩) neRS5 (.slice D2 n1 D2c)).far (p := ⟨r0.heap.size, 1, none⟩) neRS5 (.slice D3 n2 D3c)
              have kRF5 : Blk r5 (w.heap.size + 3) 34 #[.int .i64 0, .slice none 0 0] := by rw [hr5]; exact ((kRF4).far (p := ⟨r0.heap.size, 0, none⟩) neRF5 (.slice D2 n1 D2c)).far (p := ⟨r0.heap.size, 1, none⟩) neRF5 (.slice D3 n2 D3c)
              have kO5 : Blk r5 r0.heap.size 31 #[.slice D2 n1 D2c, .slice D3 n2 D3c] := by rw [hr5]; exact ((kO4.put 0 (.slice D2 n1 D2c) #[.slice D2 n1 D2c, .slice none 0 0] rfl).put 1 (.slice D3 n2 D3c) #[.slice D2 n1 D2c, .slice D3 n2 D3c] rfl)
              have kF5 : Blk r5 r2.heap.size 34 #[.int .i64 0, .slice none 0 0] := by rw [hr5]; exact ((kF4).far (p := ⟨r0.heap.size, 0, none⟩) neF5 (.slice D2 n1 D2c)).far (p := ⟨r0.heap.size, 1, none⟩) neF5 (.slice D3 n2 D3c)
              have oD25 : r5.ownsRow w.heap.size 4 1 (.slice D2 n1 D2c) n1 (BS S.bs) := by rw [hr5]; exact own_farT (own_farT (oD24) kO4 (by decide) 0 (.slice D2 n1 D2c)) (kO4.put 0 (.slice D2 n1 D2c) #[.slice D2 n1 D2c, .slice none 0 0] rfl) (by decide) 1 (.slice D3 n2 D3c)
              have oD35 : r5.ownsRow w.heap.size 9 1 (.slice D3 n2 D3c) n2 (SS S.ds) := by rw [hr5]; exact own_farT (own_farT (oD34) kO4 (by decide) 0 (.slice D2 n1 D2c)) (kO4.put 0 (.slice D2 n1 D2c) #[.slice D2 n1 D2c, .slice none 0 0] rfl) (by decide) 1 (.slice D3 n2 D3c)
              have oD45 : r5.ownsRow w.heap.size 76 3 (.slice D4 n3 D4c) n3 (XS F.xs) := by rw [hr5]; exact own_farT (own_farT (oD44) kO4 (by decide) 0 (.slice D2 n1 D2c)) (kO4.put 0 (.slice D2 n1 D2c) #[.slice D2 n1 D2c, .slice none 0 0] rfl) (by decide) 1 (.slice D3 n2 D3c)
              clear hr5
              refine wpAnyH_ready (rs := [7]) (by kernel_rfl) (by simp) ?_
              refine AllReadyH.cons (o := ?oi42) ?hi42 (fun K hK => ?br42) AllReadyH.nil
              case hi42 => (conv => lhs; simp only [List.getElem?_toArray, List.getElem?_cons_zero, List.getElem?_cons_succ]); try exact rfl
              case br42 =>
                have x6_0 := kF5.get (x := .int .i64 0) 0 rfl
                have f6_0 := kF5.frozen 0
                have x6_1 := kF5.get (x := .slice none 0 0) 1 rfl
                have f6_1 := kF5.frozen 1
                have lE6 := kF5.lt
                have neX6 : w.heap.size ≠ r2.heap.size := by have := kF5.lt; have := kX5.lt; first | exact Blk.ne_ kX5 kF5 (by decide) | omega
                have neY6 : (w.heap.size + 1) ≠ r2.heap.size := by have := kF5.lt; have := kY5.lt; first | exact Blk.ne_ kY5 kF5 (by decide) | omega
                have neRS6 : (w.heap.size + 2) ≠ r2.heap.size := by have := kF5.lt; have := kRS5.lt; first | exact Blk.ne_ kRS5 kF5 (by decide) | omega
                have neRF6 : (w.heap.size + 3) ≠ r2.heap.size := by have := kF5.lt; have := kRF5.lt; first | exact Blk.ne_ kRF5 kF5 (by decide) | omega
                have neO6 : r0.heap.size ≠ r2.heap.size := by have := kF5.lt; have := kO5.lt; first | exact Blk.ne_ kO5 kF5 (by decide) | omega
                go_simp
                refine hK.out _ _ (by exact ⟨(((kX5).far (p := ⟨r2.heap.size, 0, none⟩) neX6 (.int .i64 sz)).far (p := ⟨r2.heap.size, 1, none⟩) neX6 (.slice D4 n3 D4c)).get 0 rfl, (((kX5).far (p := ⟨r2.heap.size, 0, none⟩) neX6 (.int .i64 sz)).far (p := ⟨r2.heap.size, 1, none⟩) neX6 (.slice D4 n3 D4c)).get 1 rfl, (((kY5).far (p := ⟨r2.heap.size, 0, none⟩) neY6 (.int .i64 sz)).far (p := ⟨r2.heap.size, 1, none⟩) neY6 (.slice D4 n3 D4c)).get 0 rfl, (((kY5).far (p := ⟨r2.heap.size, 0, none⟩) neY6 (.int .i64 sz)).far (p := ⟨r2.heap.size, 1, none⟩) neY6 (.slice D4 n3 D4c)).get 1 rfl⟩) (fun _ => ?_)
                clear hK K x6_0 f6_0 x6_1 f6_1 lE6
                refine foldH ?_
                intro r6 hr6
                have bw6 : Below w.heap.size w r6 := by rw [hr6]; exact belC (belC (bw5) _ 0 laF3 (.int .i64 sz)) _ 1 laF3 (.slice D4 n3 D4c)
                have kX6 : Blk r6 w.heap.size 31 #[.slice A1 n1 c1, .slice A2 n2 c2] := by rw [hr6]; exact ((kX5).far (p := ⟨r2.heap.size, 0, none⟩) neX6 (.int .i64 sz)).far (p := ⟨r2.heap.size, 1, none⟩) neX6 (.slice D4 n3 D4c)
                have kY6 : Blk r6 (w.heap.size + 1) 34 #[.int .i64 sz, .slice A3 n3 c3] := by rw [hr6]; exact ((kY5).far (p := ⟨r2.heap.size, 0, none⟩) neY6 (.int .i64 sz)).far (p := ⟨r2.heap.size, 1, none⟩) neY6 (.slice D4 n3 D4c)
                have kRS6 : Blk r6 (w.heap.size + 2) 31 #[.slice none 0 0, .slice none 0 0] := by rw [hr6]; exact ((kRS5).far (p := ⟨r2.heap.size, 0, none⟩) neRS6 (.int .i64 sz)).far (p := ⟨r2.heap.size, 1, none⟩) neRS6 (.slice D4 n3 D4c)
                have kRF6 : Blk r6 (w.heap.size + 3) 34 #[.int .i64 0, .slice none 0 0] := by rw [hr6]; exact ((kRF5).far (p := ⟨r2.heap.size, 0, none⟩) neRF6 (.int .i64 sz)).far (p := ⟨r2.heap.size, 1, none⟩) neRF6 (.slice D4 n3 D4c)
                have kO6 : Blk r6 r0.heap.size 31 #[.slice D2 n1 D2c, .slice D3 n2 D3c] := by rw [hr6]; exact ((kO5).far (p := ⟨r2.heap.size, 0, none⟩) neO6 (.int .i64 sz)).far (p := ⟨r2.heap.size, 1, none⟩) neO6 (.slice D4 n3 D4c)
                have kF6 : Blk r6 r2.heap.size 34 #[.int .i64 sz, .slice D4 n3 D4c] := by rw [hr6]; exact ((kF5.put 0 (.int .i64 sz) #[.int .i64 sz, .slice none 0 0] rfl).put 1 (.slice D4 n3 D4c) #[.int .i64 sz, .slice D4 n3 D4c] rfl)
                have oD26 : r6.ownsRow w.heap.size 4 1 (.slice D2 n1 D2c) n1 (BS S.bs) := by rw [hr6]; exact own_farT (own_farT (oD25) kF5 (by decide) 0 (.int .i64 sz)) (kF5.put 0 (.int .i64 sz) #[.int .i64 sz, .slice none 0 0] rfl) (by decide) 1 (.slice D4 n3 D4c)
                have oD36 : r6.ownsRow w.heap.size 9 1 (.slice D3 n2 D3c) n2 (SS S.ds) := by rw [hr6]; exact own_farT (own_farT (oD35) kF5 (by decide) 0 (.int .i64 sz)) (kF5.put 0 (.int .i64 sz) #[.int .i64 sz, .slice none 0 0] rfl) (by decide) 1 (.slice D4 n3 D4c)
                have oD46 : r6.ownsRow w.heap.size 76 3 (.slice D4 n3 D4c) n3 (XS F.xs) := by rw [hr6]; exact own_farT (own_farT (oD45) kF5 (by decide) 0 (.int .i64 sz)) (kF5.put 0 (.int .i64 sz) #[.int .i64 sz, .slice none 0 0] rfl) (by decide) 1 (.slice D4 n3 D4c)
                clear hr6
                refine wpAnyH_done (by kernel_rfl) ?_ _
                have hl0 := kRF0.lt
                go_wp2_with fail
                go_meet
                case rel => exact ⟨r0.heap.size, r2.heap.size, D2, D2c, D3, D3c, D4, D4c, rfl, rfl, by have := laO1; have := bw0.size; omega, by omega, Lib.hid kX6, Lib.hid kY6, Lib.hid kRS6, Lib.hid kRF6, Lib.hid kO6, Lib.hid kF6, Lib.hid oD26, Lib.hid oD36, Lib.hid oD46, bw6⟩
      case br34 =>
        go_simp
        refine hK.out _ _ (by exact ⟨(kX1.alloc (.cells #[.int .i64 0, .slice none 0 0] 34)).get 0 rfl, (kX1.alloc (.cells #[.int .i64 0, .slice none 0 0] 34)).get 1 rfl, (kY1.alloc (.cells #[.int .i64 0, .slice none 0 0] 34)).get 0 rfl, (kY1.alloc (.cells #[.int .i64 0, .slice none 0 0] 34)).get 1 rfl⟩) (fun _ => ?_)
        clear hK K
        refine foldH ?_
        intro r2 hr2
        have bw2 : Below w.heap.size w r2 := by rw [hr2]; exact belA bw1 _
        have kX2 : Blk r2 w.heap.size 31 #[.slice A1 n1 c1, .slice A2 n2 c2] := by rw [hr2]; exact kX1.alloc _
        have kY2 : Blk r2 (w.heap.size + 1) 34 #[.int .i64 sz, .slice A3 n3 c3] := by rw [hr2]; exact kY1.alloc _
        have kRS2 : Blk r2 (w.heap.size + 2) 31 #[.slice none 0 0, .slice none 0 0] := by rw [hr2]; exact kRS1.alloc _
        have kRF2 : Blk r2 (w.heap.size + 3) 34 #[.int .i64 0, .slice none 0 0] := by rw [hr2]; exact kRF1.alloc _
        have kO2 : Blk r2 r0.heap.size 31 #[.slice none 0 0, .slice none 0 0] := by rw [hr2]; exact kO1.alloc _
        have kF2 : Blk r2 r1.heap.size 34 #[.int .i64 0, .slice none 0 0] := by rw [hr2]; exact Blk.new' _ _ _ _ rfl
        have laF2 : w.heap.size ≤ r1.heap.size := bw1.size
        have lq2X : w.heap.size < r1.heap.size := kX1.lt
        have lq2Y : (w.heap.size + 1) < r1.heap.size := kY1.lt
        have lq2RS : (w.heap.size + 2) < r1.heap.size := kRS1.lt
        have lq2RF : (w.heap.size + 3) < r1.heap.size := kRF1.lt
        have lq2O : r0.heap.size < r1.heap.size := kO1.lt
        clear hr2
        refine wpAnyH_ready (rs := [1]) (by kernel_rfl) (by simp) ?_
        refine AllReadyH.cons (o := ?oi43) ?hi43 (fun K hK => ?br43) AllReadyH.nil
        case hi43 => (conv => lhs; simp only [List.getElem?_toArray, List.getElem?_cons_zero, List.getElem?_cons_succ]); try exact rfl
        case br43 =>
          go_simp
          go_at_call 30
          refine (copyStore_impl _ S HS.out _ (HSto.out _ bw2)).mono ?_
          rintro e r3 ⟨_, rfl, hOS, hb3r⟩
          have bw3 : Below w.heap.size w r3 := bw2.trans (hb3r.mono bw2.size)
          have kX3 : Blk r3 w.heap.size 31 #[.slice A1 n1 c1, .slice A2 n2 c2] := kX2.below hb3r kX2.lt
          have kY3 : Blk r3 (w.heap.size + 1) 34 #[.int .i64 sz, .slice A3 n3 c3] := kY2.below hb3r kY2.lt
          have kRS3 : Blk r3 (w.heap.size + 2) 31 #[.slice none 0 0, .slice none 0 0] := kRS2.below hb3r kRS2.lt
          have kRF3 : Blk r3 (w.heap.size + 3) 34 #[.int .i64 0, .slice none 0 0] := kRF2.below hb3r kRF2.lt
          have kO3 : Blk r3 r0.heap.size 31 #[.slice none 0 0, .slice none 0 0] := kO2.below hb3r kO2.lt
          have kF3 : Blk r3 r1.heap.size 34 #[.int .i64 0, .slice none 0 0] := kF2.below hb3r kF2.lt
          obtain ⟨_, _, rfl, oa, ob⟩ := hOS
          rw [Hl1.out] at oa
          rw [Hl2.out] at ob
          obtain ⟨D2, D2c, rfl, _, _, _⟩ := own_vals oa
          obtain ⟨D3, D3c, rfl, _, _, _⟩ := own_vals ob
          have oD23 := own_more oa bw2.size
          have oD33 := own_more ob bw2.size
          clear oa ob
          refine hK.out _ _ (by exact ⟨(kX3).get 0 rfl, (kX3).get 1 rfl, (kY3).get 0 rfl, (kY3).get 1 rfl⟩) (fun _ => ?_)
          clear hK K
          refine wpAnyH_ready (rs := [3]) (by kernel_rfl) (by simp) ?_
          refine AllReadyH.cons (o := ?oi44) ?hi44 (fun K hK => ?br44) AllReadyH.nil
          case hi44 => (conv => lhs; simp only [List.getElem?_toArray, List.getElem?_cons_zero, List.getElem?_cons_succ]); try exact rfl
          case br44 =>
            go_simp
            go_at_call 31
            refine (copyFil_impl _ F HF.out _ (HFil.out _ bw3)).mono ?_
            rintro e r4 ⟨_, rfl, hOF, hb4r⟩
            have bw4 : Below w.heap.size w r4 := bw3.trans (hb4r.mono bw3.size)
            have kX4 : Blk r4 w.heap.size 31 #[.slice A1 n1 c1, .slice A2 n2 c2] := kX3.below hb4r kX3.lt
            have kY4 : Blk r4 (w.heap.size + 1) 34 #[.int .i64 sz, .slice A3 n3 c3] := kY3.below hb4r kY3.lt
            have kRS4 : Blk r4 (w.heap.size + 2) 31 #[.slice none 0 0, .slice none 0 0] := kRS3.below hb4r kRS3.lt
            have kRF4 : Blk r4 (w.heap.size + 3) 34 #[.int .i64 0, .slice none 0 0] := kRF3.below hb4r kRF3.lt
            have kO4 : Blk r4 r0.heap.size 31 #[.slice none 0 0, .slice none 0 0] := kO3.below hb4r kO3.lt
            have kF4 : Blk r4 r1.heap.size 34 #[.int .i64 0, .slice none 0 0] := kF3.below hb4r kF3.lt
            have oD24 : r4.ownsRow w.heap.size 4 1 (.slice D2 n1 D2c) n1 (BS S.bs) := own_below oD23 hb4r (Nat.le_refl _)
            have oD34 : r4.ownsRow w.heap.size 9 1 (.slice D3 n2 D3c) n2 (SS S.ds) := own_below oD33 hb4r (Nat.le_refl _)
            obtain ⟨_, rfl, oa⟩ := hOF
            rw [Hl3.out] at oa
            rw [Hsz.out]
            obtain ⟨D4, D4c, rfl, _, _, _⟩ := own_vals oa
            have oD44 := own_more oa bw3.size
            clear oa
            refine hK.out _ _ (by exact ⟨(kX4).get 0 rfl, (kX4).get 1 rfl, (kY4).get 0 rfl, (kY4).get 1 rfl⟩) (fun _ => ?_)
            clear hK K
            refine wpAnyH_ready (rs := [6]) (by kernel_rfl) (by simp) ?_
            refine AllReadyH.cons (o := ?oi45) ?hi45 (fun K hK => ?br45) AllReadyH.nil
            case hi45 => (conv => lhs; simp only [List.getElem?_toArray, List.getElem?_cons_zero, List.getElem?_cons_succ]); try exact rfl
            case br45 =>
              have x5_0 := kO4.get (x := .slice none 0 0) 0 rfl
              have f5_0 := kO4.frozen 0
              have x5_1 := kO4.get (x := .slice none 0 0) 1 rfl
              have f5_1 := kO4.frozen 1
              have lE5 := kO4.lt
              have neX5 : w.heap.size ≠ r0.heap.size := by have := kO4.lt; have := kX4.lt; first | exact Blk.ne_ kX4 kO4 (by decide) | omega
              have neY5 : (w.heap.size + 1) ≠ r0.heap.size := by have := kO4.lt; have := kY4.lt; first | exact Blk.ne_ kY4 kO4 (by decide) | omega
              have neRS5 : (w.heap.size + 2) ≠ r0.heap.size := by have := kO4.lt; have := kRS4.lt; first | exact Blk.ne_ kRS4 kO4 (by decide) | omega
              have neRF5 : (w.heap.size + 3) ≠ r0.heap.size := by have := kO4.lt; have := kRF4.lt; first | exact Blk.ne_ kRF4 kO4 (by decide) | omega
              have neF5 : r1.heap.size ≠ r0.heap.size := by have := kO4.lt; have := kF4.lt; first | exact Blk.ne_ kF4 kO4 (by decide) | omega
              go_simp
              refine hK.out _ _ (by exact ⟨(((kX4).far (p := ⟨r0.heap.size, 0, none⟩) neX5 (.slice D2 n1 D2c)).far (p := ⟨r0.heap.size, 1, none⟩) neX5 (.slice D3 n2 D3c)).get 0 rfl, (((kX4).far (p := ⟨r0.heap.size, 0, none⟩) neX5 (.slice D2 n1 D2c)).far (p := ⟨r0.heap.size, 1, none⟩) neX5 (.slice D3 n2 D3c)).get 1 rfl, (((kY4).far (p := ⟨r0.heap.size, 0, none⟩) neY5 (.slice D2 n1 D2c)).far (p := ⟨r0.heap.size, 1, none⟩) neY5 (.slice D3 n2 D3c)).get 0 rfl, (((kY4).far (p := ⟨r0.heap.size, 0, none⟩) neY5 (.slice D2 n1 D2c)).far (p := ⟨r0.heap.size, 1, none⟩) neY5 (.slice D3 n2 D3c)).get 1 rfl⟩) (fun _ => ?_)
              clear hK K x5_0 f5_0 x5_1 f5_1 lE5
              refine foldH ?_
              intro r5 hr5
              have bw5 : Below w.heap.size w r5 := by rw [hr5]; exact belC (belC (bw4) _ 0 laO1 (.slice D2 n1 D2c)) _ 1 laO1 (.slice D3 n2 D3c)
              have kX5 : Blk r5 w.heap.size 31 #[.slice A1 n1 c1, .slice A2 n2 c2] := by rw [hr5]; exact ((kX4).far (p := ⟨r0.heap.size, 0, none⟩) neX5 (.slice D2 n1 D2c)).far (p := ⟨r0.heap.size, 1, none⟩) neX5 (.slice D3 n2 D3c)
              have kY5 : Blk r5 (w.heap.size + 1) 34 #[.int .i64 sz, .slice A3 n3 c3] := by rw [hr5]; exact ((kY4).far (p := ⟨r0.heap.size, 0, none⟩) neY5 (.slice D2 n1 D2c)).far (p := ⟨r0.heap.size, 1, none⟩) neY5 (.slice D3 n2 D3c)
              have kRS5 : Blk r5 (w.heap.size + 2) 31 #[.slice none 0 0, .slice none 0 0] := by rw [hr5]; exact ((kRS4).far (p := ⟨r0.heap.size, 0, none⟩) neRS5 (.slice D2 n1 D2c)).far (p := ⟨r0.heap.size, 1, none⟩) neRS5 (.slice D3 n2 D3c)
              have kRF5 : Blk r5 (w.heap.size + 3) 34 #[.int .i64 0, .slice none 0 0] := by rw [hr5]; exact ((kRF4).far (p := ⟨r0.heap.size, 0, none⟩) neRF5 (.slice D2 n1 D2c)).far (p := ⟨r0.heap.size, 1, none⟩) neRF5 (.slice D3 n2 D3c)
              have kO5 : Blk r5 r0.heap.size 31 #[.slice D2 n1 D2c, .slice D3 n2 D3c] := by rw [hr5]; exact ((kO4.put 0 (.slice D2 n1 D2c) #[.slice D2 n1 D2c, .slice none 0 0] rfl).put 1 (.slice D3 n2 D3c) #[.slice D2 n1 D2c, .slice D3 n2 D3c] rfl)
              have kF5 : Blk r5 r1.heap.size 34 #[.int .i64 0, .slice none 0 0] := by rw [hr5]; exact ((kF4).far (p := ⟨r0.heap.size, 0, none⟩) neF5 (.slice D2 n1 D2c)).far (p := ⟨r0.heap.size, 1, none⟩) neF5 (.slice D3 n2 D3c)
              have oD25 : r5.ownsRow w.heap.size 4 1 (.slice D2 n1 D2c) n1 (BS S.bs) := by rw [hr5]; exact own_farT (own_farT (oD24) kO4 (by decide) 0 (.slice D2 n1 D2c)) (kO4.put 0 (.slice D2 n1 D2c) #[.slice D2 n1 D2c, .slice none 0 0] rfl) (by decide) 1 (.slice D3 n2 D3c)
              have oD35 : r5.ownsRow w.heap.size 9 1 (.slice D3 n2 D3c) n2 (SS S.ds) := by rw [hr5]; exact own_farT (own_farT (oD34) kO4 (by decide) 0 (.slice D2 n1 D2c)) (kO4.put 0 (.slice D2 n1 D2c) #[.slice D2 n1 D2c, .slice none 0 0] rfl) (by decide) 1 (.slice D3 n2 D3c)
              have oD45 : r5.ownsRow w.heap.size 76 3 (.slice D4 n3 D4c) n3 (XS F.xs) := by rw [hr5]; exact own_farT (own_farT (oD44) kO4 (by decide) 0 (.slice D2 n1 D2c)) (kO4.put 0 (.slice D2 n1 D2c) #[.slice D2 n1 D2c, .slice none 0 0] rfl) (by decide) 1 (.slice D3 n2 D3c)
              clear hr5
              refine wpAnyH_ready (rs := [7]) (by kernel_rfl) (by simp) ?_
              refine AllReadyH.cons (o := ?oi46) ?hi46 (fun K hK => ?br46) AllReadyH.nil
              case hi46 => (conv => lhs; simp only [List.getElem?_toArray, List.getElem?_cons_zero, List.getElem?_cons_succ]); try exact rfl
              case br46 =>
                have x6_0 := kF5.get (x := .int .i64 0) 0 rfl
                have f6_0 := kF5.frozen 0
                have x6_1 := kF5.get (x := .slice none 0 0) 1 rfl
                have f6_1 := kF5.frozen 1
                have lE6 := kF5.lt
                have neX6 : w.heap.size ≠ r1.heap.size := by have := kF5.lt; have := kX5.lt; first | exact Blk.ne_ kX5 kF5 (by decide) | omega
                have neY6 : (w.heap.size + 1) ≠ r1.heap.size := by have := kF5.lt; have := kY5.lt; first | exact Blk.ne_ kY5 kF5 (by decide) | omega
                have neRS6 : (w.heap.size + 2) ≠ r1.heap.size := by have := kF5.lt; have := kRS5.lt; first | exact Blk.ne_ kRS5 kF5 (by decide) | omega
                have neRF6 : (w.heap.size + 3) ≠ r1.heap.size := by have := kF5.lt; have := kRF5.lt; first | exact Blk.ne_ kRF5 kF5 (by decide) | omega
                have neO6 : r0.heap.size ≠ r1.heap.size := by have := kF5.lt; have := kO5.lt; first | exact Blk.ne_ kO5 kF5 (by decide) | omega
                go_simp
                refine hK.out _ _ (by exact ⟨(((kX5).far (p := ⟨r1.heap.size, 0, none⟩) neX6 (.int .i64 sz)).far (p := ⟨r1.heap.size, 1, none⟩) neX6 (.slice D4 n3 D4c)).get 0 rfl, (((kX5).far (p := ⟨r1.heap.size, 0, none⟩) neX6 (.int .i64 sz)).far (p := ⟨r1.heap.size, 1, none⟩) neX6 (.slice D4 n3 D4c)).get 1 rfl, (((kY5).far (p := ⟨r1.heap.size, 0, none⟩) neY6 (.int .i64 sz)).far (p := ⟨r1.heap.size, 1, none⟩) neY6 (.slice D4 n3 D4c)).get 0 rfl, (((kY5).far (p := ⟨r1.heap.size, 0, none⟩) neY6 (.int .i64 sz)).far (p := ⟨r1.heap.size, 1, none⟩) neY6 (.slice D4 n3 D4c)).get 1 rfl⟩) (fun _ => ?_)
                clear hK K x6_0 f6_0 x6_1 f6_1 lE6
                refine foldH ?_
                intro r6 hr6
                have bw6 : Below w.heap.size w r6 := by rw [hr6]; exact belC (belC (bw5) _ 0 laF2 (.int .i64 sz)) _ 1 laF2 (.slice D4 n3 D4c)
                have kX6 : Blk r6 w.heap.size 31 #[.slice A1 n1 c1, .slice A2 n2 c2] := by rw [hr6]; exact ((kX5).far (p := ⟨r1.heap.size, 0, none⟩) neX6 (.int .i64 sz)).far (p := ⟨r1.heap.size, 1, none⟩) neX6 (.slice D4 n3 D4c)
                have kY6 : Blk r6 (w.heap.size + 1) 34 #[.int .i64 sz, .slice A3 n3 c3] := by rw [hr6]; exact ((kY5).far (p := ⟨r1.heap.size, 0, none⟩) neY6 (.int .i64 sz)).far (p := ⟨r1.heap.size, 1, none⟩) neY6 (.slice D4 n3 D4c)
                have kRS6 : Blk r6 (w.heap.size + 2) 31 #[.slice none 0 0, .slice none 0 0] := by rw [hr6]; exact ((kRS5).far (p := ⟨r1.heap.size, 0, none⟩) neRS6 (.int .i64 sz)).far (p := ⟨r1.heap.size, 1, none⟩) neRS6 (.slice D4 n3 D4c)
                have kRF6 : Blk r6 (w.heap.size + 3) 34 #[.int .i64 0, .slice none 0 0] := by rw [hr6]; exact ((kRF5).far (p := ⟨r1.heap.size, 0, none⟩) neRF6 (.int .i64 sz)).far (p := ⟨r1.heap.size, 1, none⟩) neRF6 (.slice D4 n3 D4c)
                have kO6 : Blk r6 r0.heap.size 31 #[.slice D2 n1 D2c, .slice D3 n2 D3c] := by rw [hr6]; exact ((kO5).far (p := ⟨r1.heap.size, 0, none⟩) neO6 (.int .i64 sz)).far (p := ⟨r1.heap.size, 1, none⟩) neO6 (.slice D4 n3 D4c)
                have kF6 : Blk r6 r1.heap.size 34 #[.int .i64 sz, .slice D4 n3 D4c] := by rw [hr6]; exact ((kF5.put 0 (.int .i64 sz) #[.int .i64 sz, .slice none 0 0] rfl).put 1 (.slice D4 n3 D4c) #[.int .i64 sz, .slice D4 n3 D4c] rfl)
                have oD26 : r6.ownsRow w.heap.size 4 1 (.slice D2 n1 D2c) n1 (BS S.bs) := by rw [hr6]; exact own_farT (own_farT (oD25) kF5 (by decide) 0 (.int .i64 sz)) (kF5.put 0 (.int .i64 sz) #[.int .i64 sz, .slice none 0 0] rfl) (by decide) 1 (.slice D4 n3 D4c)
                have oD36 : r6.ownsRow w.heap.size 9 1 (.slice D3 n2 D3c) n2 (SS S.ds) := by rw [hr6]; exact own_farT (own_farT (oD35) kF5 (by decide) 0 (.int .i64 sz)) (kF5.put 0 (.int .i64 sz) #[.int .i64 sz, .slice none 0 0] rfl) (by decide) 1 (.slice D4 n3 D4c)
                have oD46 : r6.ownsRow w.heap.size 76 3 (.slice D4 n3 D4c) n3 (XS F.xs) := by rw [hr6]; exact own_farT (own_farT (oD45) kF5 (by decide) 0 (.int .i64 sz)) (kF5.put 0 (.int .i64 sz) #[.int .i64 sz, .slice none 0 0] rfl) (by decide) 1 (.slice D4 n3 D4c)
                clear hr6
                refine wpAnyH_done (by kernel_rfl) ?_ _
                have hl0 := kRF0.lt
                go_wp2_with fail
                go_meet
                case rel => exact ⟨r0.heap.size, r1.heap.size, D2, D2c, D3, D3c, D4, D4c, rfl, rfl, by have := laO1; have := bw0.size; omega, by omega, Lib.hid kX6, Lib.hid kY6, Lib.hid kRS6, Lib.hid kRF6, Lib.hid kO6, Lib.hid kF6, Lib.hid oD26, Lib.hid oD36, Lib.hid oD46, bw6⟩
    case br5 =>
      go_simp
      refine hK.out _ _ (by exact ⟨(kX0.alloc (.cells #[.int .i64 0, .slice none 0 0] 34)).get 0 rfl, (kX0.alloc (.cells #[.int .i64 0, .slice none 0 0] 34)).get 1 rfl, (kY0.alloc (.cells #[.int .i64 0, .slice none 0 0] 34)).get 0 rfl, (kY0.alloc (.cells #[.int .i64 0, .slice none 0 0] 34)).get 1 rfl⟩) (fun _ => ?_)
      clear hK K
      refine foldH ?_
      intro r1 hr1
      have bw1 : Below w.heap.size w r1 := by rw [hr1]; exact belA bw0 _
      have kX1 : Blk r1 w.heap.size 31 #[.slice A1 n1 c1, .slice A2 n2 c2] := by rw [hr1]; exact kX0.alloc _
      have kY1 : Blk r1 (w.heap.size + 1) 34 #[.int .i64 sz, .slice A3 n3 c3] := by rw [hr1]; exact kY0.alloc _
      have kRS1 : Blk r1 (w.heap.size + 2) 31 #[.slice none 0 0, .slice none 0 0] := by rw [hr1]; exact kRS0.alloc _
      have kRF1 : Blk r1 (w.heap.size + 3) 34 #[.int .i64 0, .slice none 0 0] := by rw [hr1]; exact kRF0.alloc _
      have kF1 : Blk r1 r0.heap.size 34 #[.int .i64 0, .slice none 0 0] := by rw [hr1]; exact Blk.new' _ _ _ _ rfl
      have laF1 : w.heap.size ≤ r0.heap.size := bw0.size
      have lq1X : w.heap.size < r0.heap.size := kX0.lt
      have lq1Y : (w.heap.size + 1) < r0.heap.size := kY0.lt
      have lq1RS : (w.heap.size + 2) < r0.heap.size := kRS0.lt
      have lq1RF : (w.heap.size + 3) < r0.heap.size := kRF0.lt
      clear hr1
      refine wpAnyH_ready (rs := [1, 4]) (by kernel_rfl) (by simp) ?_
      refine AllReadyH.cons (o := ?oi47) ?hi47 (fun K hK => ?br47) (AllReadyH.cons (o := ?oi48) ?hi48 (fun K hK => ?br48) AllReadyH.nil)
      case hi47 => (conv => lhs; simp only [List.getElem?_toArray, List.getElem?_cons_zero, List.getElem?_cons_succ]); try exact rfl
      case hi48 => (conv => lhs; simp only [List.getElem?_toArray, List.getElem?_cons_zero, List.getElem?_cons_succ]); try exact rfl
      case br47 =>
        go_simp
        go_at_call 30
        refine (copyStore_impl _ S HS.out _ (HSto.out _ bw1)).mono ?_
        rintro e r2 ⟨_, rfl, hOS, hb2r⟩
        have bw2 : Below w.heap.size w r2 := bw1.trans (hb2r.mono bw1.size)
        have kX2 : Blk r2 w.heap.size 31 #[.slice A1 n1 c1, .slice A2 n2 c2] := kX1.below hb2r kX1.lt
        have kY2 : Blk r2 (w.heap.size + 1) 34 #[.int .i64 sz, .slice A3 n3 c3] := kY1.below hb2r kY1.lt
        have kRS2 : Blk r2 (w.heap.size + 2) 31 #[.slice none 0 0, .slice none 0 0] := kRS1.below hb2r kRS1.lt
        have kRF2 : Blk r2 (w.heap.size + 3) 34 #[.int .i64 0, .slice none 0 0] := kRF1.below hb2r kRF1.lt
        have kF2 : Blk r2 r0.heap.size 34 #[.int .i64 0, .slice none 0 0] := kF1.below hb2r kF1.lt
        obtain ⟨_, _, rfl, oa, ob⟩ := hOS
        rw [Hl1.out] at oa
        rw [Hl2.out] at ob
        obtain ⟨D2, D2c, rfl, _, _, _⟩ := own_vals oa
        obtain ⟨D3, D3c, rfl, _, _, _⟩ := own_vals ob
        have oD22 := own_more oa bw1.size
        have oD32 := own_more ob bw1.size
        clear oa ob
        refine hK.out _ _ (by exact ⟨(kX2).get 0 rfl, (kX2).get 1 rfl, (kY2).get 0 rfl, (kY2).get 1 rfl⟩) (fun _ => ?_)
        clear hK K
        refine wpAnyH_ready (rs := [3, 4]) (by kernel_rfl) (by simp) ?_
        refine AllReadyH.cons (o := ?oi49) ?hi49 (fun K hK => ?br49) (AllReadyH.cons (o := ?oi50) ?hi50 (fun K hK => ?br50) AllReadyH.nil)
        case hi49 => (conv => lhs; simp only [List.getElem?_toArray, List.getElem?_cons_zero, List.getElem?_cons_succ]); try exact rfl
        case hi50 => (conv => lhs; simp only [List.getElem?_toArray, List.getElem?_cons_zero, List.getElem?_cons_succ]); try exact rfl
        case br49 =>
          go_simp
          go_at_call 31
          refine (copyFil_impl _ F HF.out _ (HFil.out _ bw2)).mono ?_
          rintro e r3 ⟨_, rfl, hOF, hb3r⟩
          have bw3 : Below w.heap.size w r3 := bw2.trans (hb3r.mono bw2.size)
          have kX3 : Blk r3 w.heap.size 31 #[.slice A1 n1 c1, .slice A2 n2 c2] := kX2.below hb3r kX2.lt
          have kY3 : Blk r3 (w.heap.size + 1) 34 #[.int .i64 sz, .slice A3 n3 c3] := kY2.below hb3r kY2.lt
          have kRS3 : Blk r3 (w.heap.size + 2) 31 #[.slice none 0 0, .slice none 0 0] := kRS2.below hb3r kRS2.lt
          have kRF3 : Blk r3 (w.heap.size + 3) 34 #[.int .i64 0, .slice none 0 0] := kRF2.below hb3r kRF2.lt
          have kF3 : Blk r3 r0.heap.size 34 #[.int .i64 0, .slice none 0 0] := kF2.below hb3r kF2.lt
          have oD23 : r3.ownsRow w.heap.size 4 1 (.slice D2 n1 D2c) n1 (BS S.bs) := own_below oD22 hb3r (Nat.le_refl _)
          have oD33 : r3.ownsRow w.heap.size 9 1 (.slice D3 n2 D3c) n2 (SS S.ds) := own_below oD32 hb3r (Nat.le_refl _)
          obtain ⟨_, rfl, oa⟩ := hOF
          rw [Hl3.out] at oa
          rw [Hsz.out]
          obtain ⟨D4, D4c, rfl, _, _, _⟩ := own_vals oa
          have oD43 := own_more oa bw2.size
          clear oa
          refine hK.out _ _ (by exact ⟨(kX3).get 0 rfl, (kX3).get 1 rfl, (kY3).get 0 rfl, (kY3).get 1 rfl⟩) (fun _ => ?_)
          clear hK K
          refine wpAnyH_ready (rs := [4]) (by kernel_rfl) (by simp) ?_
          refine AllReadyH.cons (o := ?oi51) ?hi51 (fun K hK => ?br51) AllReadyH.nil
          case hi51 => (conv => lhs; simp only [List.getElem?_toArray, List.getElem?_cons_zero, List.getElem?_cons_succ]); try exact rfl
          case br51 =>
            go_simp
            refine hK.out _ _ (by exact ⟨(kX3.alloc (.cells #[.slice none 0 0, .slice none 0 0] 31)).get 0 rfl, (kX3.alloc (.cells #[.slice none 0 0, .slice none 0 0] 31)).get 1 rfl, (kY3.alloc (.cells #[.slice none 0 0, .slice none 0 0] 31)).get 0 rfl, (kY3.alloc (.cells #[.slice none 0 0, .slice none 0 0] 31)).get 1 rfl⟩) (fun _ => ?_)
            clear hK K
            refine foldH ?_
            intro r4 hr4
            have bw4 : Below w.heap.size w r4 := by rw [hr4]; exact belA bw3 _
            have kX4 : Blk r4 w.heap.size 31 #[.slice A1 n1 c1, .slice A2 n2 c2] := by rw [hr4]; exact kX3.alloc _
            have kY4 : Blk r4 (w.heap.size + 1) 34 #[.int .i64 sz, .slice A3 n3 c3] := by rw [hr4]; exact kY3.alloc _
            have kRS4 : Blk r4 (w.heap.size + 2) 31 #[.slice none 0 0, .slice none 0 0] := by rw [hr4]; exact kRS3.alloc _
            have kRF4 : Blk r4 (w.heap.size + 3) 34 #[.int .i64 0, .slice none 0 0] := by rw [hr4]; exact kRF3.alloc _
            have kF4 : Blk r4 r0.heap.size 34 #[.int .i64 0, .slice none 0 0] := by rw [hr4]; exact kF3.alloc _
            have oD24 : r4.ownsRow w.heap.size 4 1 (.slice D2 n1 D2c) n1 (BS S.bs) := by rw [hr4]; exact oD23.alloc _
            have oD34 : r4.ownsRow w.heap.size 9 1 (.slice D3 n2 D3c) n2 (SS S.ds) := by rw [hr4]; exact oD33.alloc _
            have oD44 : r4.ownsRow w.heap.size 76 3 (.slice D4 n3 D4c) n3 (XS F.xs) := by rw [hr4]; exact oD43.alloc _
            have kO4 : Blk r4 r3.heap.size 31 #[.slice none 0 0, .slice none 0 0] := by rw [hr4]; exact Blk.new' _ _ _ _ rfl
            have laO4 : w.heap.size ≤ r3.heap.size := bw3.size
            have lq4X : w.heap.size < r3.heap.size := kX3.lt
            have lq4Y : (w.heap.size + 1) < r3.heap.size := kY3.lt
            have lq4RS : (w.heap.size + 2) < r3.heap.size := kRS3.lt
            have lq4RF : (w.heap.size + 3) < r3.heap.size := kRF3.lt
            have lq4F : r0.heap.size < r3.heap.size := kF3.lt
            clear hr4
            refine wpAnyH_ready (rs := [6]) (by kernel_rfl) (by simp) ?_
            refine AllReadyH.cons (o := ?oi52) ?hi52 (fun K hK => ?br52) AllReadyH.nil
            case hi52 => (conv => lhs; simp only [List.getElem?_toArray, List.getElem?_cons_zero, List.getElem?_cons_succ]); try exact rfl
            case br52 =>
              have x5_0 := kO4.get (x := .slice none 0 0) 0 rfl
              have f5_0 := kO4.frozen 0
              have x5_1 := kO4.get (x := .slice none 0 0) 1 rfl
              have f5_1 := kO4.frozen 1
              have lE5 := kO4.lt
              have neX5 : w.heap.size ≠ r3.heap.size := by have := kO4.lt; have := kX4.lt; first | exact Blk.ne_ kX4 kO4 (by decide) | omega
              have neY5 : (w.heap.size + 1) ≠ r3.heap.size := by have := kO4.lt; have := kY4.lt; first | exact Blk.ne_ kY4 kO4 (by decide) | omega
              have neRS5 : (w.heap.size + 2) ≠ r3.heap.size := by have := kO4.lt; have := kRS4.lt; first | exact Blk.ne_ kRS4 kO4 (by decide) | omega
              have neRF5 : (w.heap.size + 3) ≠ r3.heap.size := by have := kO4.lt; have := kRF4.lt; first | exact Blk.ne_ kRF4 kO4 (by decide) | omega
              have neF5 : r0.heap.size ≠ r3.heap.size := by have := kO4.lt; have := kF4.lt; first | exact Blk.ne_ kF4 kO4 (by decide) | omega
              go_simp
              refine hK.out _ _ (by exact ⟨(((kX4).far (p := ⟨r3.heap.size, 0, none⟩) neX5 (.slice D2 n1 D2c)).far (p := ⟨r3.heap.size, 1, none⟩) neX5 (.slice D3 n2 D3c)).get 0 rfl, (((kX4).far (p := ⟨r3.heap.size, 0, none⟩) neX5 (.slice D2 n1 D2c)).far (p := ⟨r3.heap.size, 1, none⟩) neX5 (.slice D3 n2 D3c)).get 1 rfl, (((kY4).far (p := ⟨r3.heap.size, 0, none⟩) neY5 (.slice D2 n1 D2c)).far (p := ⟨r3.heap.size, 1, none⟩) neY5 (.slice D3 n2 D3c)).get 0 rfl, (((kY4).far (p := ⟨r3.heap.size, 0, none⟩) neY5 (.slice D2 n1 D2c)).far (p := ⟨r3.heap.size, 1, none⟩) neY5 (.slice D3 n2 D3c)).get 1 rfl⟩) (fun _ => ?_)
              clear hK K x5_0 f5_0 x5_1 f5_1 lE5
              refine foldH ?_
              intro r5 hr5
              have bw5 : Below w.heap.size w r5 := by rw [hr5]; exact belC (belC (bw4) _ 0 laO4 (.slice D2 n1 D2c)) _ 1 laO4 (.slice D3 n2 D3c)
              have kX5 : Blk r5 w.heap.size 31 #[.slice A1 n1 c1, .slice A2 n2 c2] := by rw [hr5]; exact ((kX4).far (p := ⟨r3.heap.size, 0, none⟩) neX5 (.slice D2 n1 D2c)).far (p := ⟨r3.heap.size, 1, none⟩) neX5 (.slice D3 n2 D3c)
              have kY5 : Blk r5 (w.heap.size + 1) 34 #[.int .i64 sz, .slice A3 n3 c3] := by rw [hr5]; exact ((kY4).far (p := ⟨r3.heap.size, 0, none⟩) neY5 (.slice D2 n1 D2c)).far (p := ⟨r3.heap.size, 1, none⟩) neY5 (.slice D3 n2 D3c)
              have kRS5 : Blk r5 (w.heap.size + 2) 31 #[.slice none 0 0, .slice none 0 0] := by rw [hr5]; exact ((kRS4).far (p := ⟨r3.heap.size, 0, none⟩) neRS5 (.slice D2 n1 D2c)).far (p := ⟨r3.heap.size, 1, none⟩) neRS5 (.slice D3 n2 D3c)
              have kRF5 : Blk r5 (w.heap.size + 3) 34 #[.int .i64 0, .slice none 0 0] := by rw [hr5]; exact ((kRF4).far (p := ⟨r3.heap.size, 0, none⟩) neRF5 (.slice D2 n1 D2c)).far (p := ⟨r3.heap.size, 1, none⟩) neRF5 (.slice D3 n2 D3c)
              have kF5 : Blk r5 r0.heap.size 34 #[.int .i64 0, .slice none 0 0] := by rw [hr5]; exact ((kF4).far (p := ⟨r3.heap.size, 0, none⟩) neF5 (.slice D2 n1 D2c)).far (p := ⟨r3.heap.size, 1, none⟩) neF5 (.slice D3 n2 D3c)
              have kO5 : Blk r5 r3.heap.size 31 #[.slice D2 n1 D2c, .slice D3 n2 D3c] := by rw [hr5]; exact ((kO4.put 0 (.slice D2 n1 D2c) #[.slice D2 n1 D2c, .slice none 0 0] rfl).put 1 (.slice D3 n2 D3c) #[.slice D2 n1 D2c, .slice D3 n2 D3c] rfl)
              have oD25 : r5.ownsRow w.heap.size 4 1 (.slice D2 n1 D2c) n1 (BS S.bs) := by rw [hr5]; exact own_farT (own_farT (oD24) kO4 (by decide) 0 (.slice D2 n1 D2c)) (kO4.put 0 (.slice D2 n1 D2c) #[.slice D2 n1 D2c, .slice none 0 0] rfl) (by decide) 1 (.slice D3 n2 D3c)
              have oD35 : r5.ownsRow w.heap.size 9 1 (.slice D3 n2 D3c) n2 (SS S.ds) := by rw [hr5]; exact own_farT (own_farT (oD34) kO4 (by decide) 0 (.slice D2 n1 D2c)) (kO4.put 0 (.slice D2 n1 D2c) #[.slice D2 n1 D2c, .slice none 0 0] rfl) (by decide) 1 (.slice D3 n2 D3c)
              have oD45 : r5.ownsRow w.heap.size 76 3 (.slice D4 n3 D4c) n3 (XS F.xs) := by rw [hr5]; exact own_farT (own_farT (oD44) kO4 (by decide) 0 (.slice D2 n1 D2c)) (kO4.put 0 (.slice D2 n1 D2c) #[.slice D2 n1 D2c, .slice none 0 0] rfl) (by decide) 1 (.slice D3 n2 D3c)
              clear hr5
              refine wpAnyH_ready (rs := [7]) (by kernel_rfl) (by simp) ?_
              refine AllReadyH.cons (o := ?oi53) ?hi53 (fun K hK => ?br53) AllReadyH.nil
              case hi53 => (conv => lhs; simp only [List.getElem?_toArray, List.getElem?_cons_zero, List.getElem?_cons_succ]); try exact rfl
              case br53 =>
                have x6_0 := kF5.get (x := .int .i64 0) 0 rfl
                have f6_0 := kF5.frozen 0
                have x6_1 := kF5.get (x := .slice none 0 0) 1 rfl
                have f6_1 := kF5.frozen 1
                have lE6 := kF5.lt
                have neX6 : w.heap.size ≠ r0.heap.size := by have := kF5.lt; have := kX5.lt; first | exact Blk.ne_ kX5 kF5 (by decide) | omega
                have neY6 : (w.heap.size + 1) ≠ r0.heap.size := by have := kF5.lt; have := kY5.lt; first | exact Blk.ne_ kY5 kF5 (by decide) | omega
                have neRS6 : (w.heap.size + 2) ≠ r0.heap.size := by have := kF5.lt; have := kRS5.lt; first | exact Blk.ne_ kRS5 kF5 (by decide) | omega
                have neRF6 : (w.heap.size + 3) ≠ r0.heap.size := by have := kF5.lt; have := kRF5.lt; first | exact Blk.ne_ kRF5 kF5 (by decide) | omega
                have neO6 : r3.heap.size ≠ r0.heap.size := by have := kF5.lt; have := kO5.lt; first | exact Blk.ne_ kO5 kF5 (by decide) | omega
                go_simp
                refine hK.out _ _ (by exact ⟨(((kX5).far (p := ⟨r0.heap.size, 0, none⟩) neX6 (.int .i64 sz)).far (p := ⟨r0.heap.size, 1, none⟩) neX6 (.slice D4 n3 D4c)).get 0 rfl, (((kX5).far (p := ⟨r0.heap.size, 0, none⟩) neX6 (.int .i64 sz)).far (p := ⟨r0.heap.size, 1, none⟩) neX6 (.slice D4 n3 D4c)).get 1 rfl, (((kY5).far (p := ⟨r0.heap.size, 0, none⟩) neY6 (.int .i64 sz)).far (p := ⟨r0.heap.size, 1, none⟩) neY6 (.slice D4 n3 D4c)).get 0 rfl, (((kY5).far (p := ⟨r0.heap.size, 0, none⟩) neY6 (.int .i64 sz)).far (p := ⟨r0.heap.size, 1, none⟩) neY6 (.slice D4 n3 D4c)).get 1 rfl⟩) (fun _ => ?_)
                clear hK K x6_0 f6_0 x6_1 f6_1 lE6
                refine foldH ?_
                intro r6 hr6
                have bw6 : Below w.heap.size w r6 := by rw [hr6]; exact belC (belC (bw5) _ 0 laF1 (.int .i64 sz)) _ 1 laF1 (.slice D4 n3 D4c)
                have kX6 : Blk r6 w.heap.size 31 #[.slice A1 n1 c1, .slice A2 n2 c2] := by rw [hr6]; exact ((kX5).far (p := ⟨r0.heap.size, 0, none⟩) neX6 (.int .i64 sz)).far (p := ⟨r0.heap.size, 1, none⟩) neX6 (.slice D4 n3 D4c)
                have kY6 : Blk r6 (w.heap.size + 1) 34 #[.int .i64 sz, .slice A3 n3 c3] := by rw [hr6]; exact ((kY5).far (p := ⟨r0.heap.size, 0, none⟩) neY6 (.int .i64 sz)).far (p := ⟨r0.heap.size, 1, none⟩) neY6 (.slice D4 n3 D4c)
                have kRS6 : Blk r6 (w.heap.size + 2) 31 #[.slice none 0 0, .slice none 0 0] := by rw [hr6]; exact ((kRS5).far (p := ⟨r0.heap.size, 0, none⟩) neRS6 (.int .i64 sz)).far (p := ⟨r0.heap.size, 1, none⟩) neRS6 (.slice D4 n3 D4c)
                have kRF6 : Blk r6 (w.heap.size + 3) 34 #[.int .i64 0, .slice none 0 0] := by rw [hr6]; exact ((kRF5).far (p := ⟨r0.heap.size, 0, none⟩) neRF6 (.int .i64 sz)).far (p := ⟨r0.heap.size, 1, none⟩) neRF6 (.slice D4 n3 D4c)
                have kF6 : Blk r6 r0.heap.size 34 #[.int .i64 sz, .slice D4 n3 D4c] := by rw [hr6]; exact ((kF5.put 0 (.int .i64 sz) #[.int .i64 sz, .slice none 0 0] rfl).put 1 (.slice D4 n3 D4c) #[.int .i64 sz, .slice D4 n3 D4c] rfl)
                have kO6 : Blk r6 r3.heap.size 31 #[.slice D2 n1 D2c, .slice D3 n2 D3c] := by rw [hr6]; exact ((kO5).far (p := ⟨r0.heap.size, 0, none⟩) neO6 (.int .i64 sz)).far (p := ⟨r0.heap.size, 1, none⟩) neO6 (.slice D4 n3 D4c)
                have oD26 : r6.ownsRow w.heap.size 4 1 (.slice D2 n1 D2c) n1 (BS S.bs) := by rw [hr6]; exact own_farT (own_farT (oD25) kF5 (by decide) 0 (.int .i64 sz)) (kF5.put 0 (.int .i64 sz) #[.int .i64 sz, .slice none 0 0] rfl) (by decide) 1 (.slice D4 n3 D4c)
                have oD36 : r6.ownsRow w.heap.size 9 1 (.slice D3 n2 D3c) n2 (SS S.ds) := by rw [hr6]; exact own_farT (own_farT (oD35) kF5 (by decide) 0 (.int .i64 sz)) (kF5.put 0 (.int .i64 sz) #[.int .i64 sz, .slice none 0 0] rfl) (by decide) 1 (.slice D4 n3 D4c)
                have oD46 : r6.ownsRow w.heap.size 76 3 (.slice D4 n3 D4c) n3 (XS F.xs) := by rw [hr6]; exact own_farT (own_farT (oD45) kF5 (by decide) 0 (.int .i64 sz)) (kF5.put 0 (.int .i64 sz) #[.int .i64 sz, .slice none 0 0] rfl) (by decide) 1 (.slice D4 n3 D4c)
                clear hr6
                refine wpAnyH_done (by kernel_rfl) ?_ _
                have hl0 := kRF0.lt
                go_wp2_with fail
                go_meet
                case rel => exact ⟨r3.heap.size, r0.heap.size, D2, D2c, D3, D3c, D4, D4c, rfl, rfl, by have := laO4; have := bw0.size; omega, by omega, Lib.hid kX6, Lib.hid kY6, Lib.hid kRS6, Lib.hid kRF6, Lib.hid kO6, Lib.hid kF6, Lib.hid oD26, Lib.hid oD36, Lib.hid oD46, bw6⟩
        case br50 =>
          go_simp
          refine hK.out _ _ (by exact ⟨(kX2.alloc (.cells #[.slice none 0 0, .slice none 0 0] 31)).get 0 rfl, (kX2.alloc (.cells #[.slice none 0 0, .slice none 0 0] 31)).get 1 rfl, (kY2.alloc (.cells #[.slice none 0 0, .slice none 0 0] 31)).get 0 rfl, (kY2.alloc (.cells #[.slice none 0 0, .slice none 0 0] 31)).get 1 rfl⟩) (fun _ => ?_)
          clear hK K
          refine foldH ?_
          intro r3 hr3
          have bw3 : Below w.heap.size w r3 := by rw [hr3]; exact belA bw2 _
          have kX3 : Blk r3 w.heap.size 31 #[.slice A1 n1 c1, .slice A2 n2 c2] := by rw [hr3]; exact kX2.alloc _
          have kY3 : Blk r3 (w.heap.size + 1) 34 #[.int .i64 sz, .slice A3 n3 c3] := by rw [hr3]; exact kY2.alloc _
          have kRS3 : Blk r3 (w.heap.size + 2) 31 #[.slice none 0 0, .slice none 0 0] := by rw [hr3]; exact kRS2.alloc _
          have kRF3 : Blk r3 (w.heap.size + 3) 34 #[.int .i64 0, .slice none 0 0] := by rw [hr3]; exact kRF2.alloc _
          have kF3 : Blk r3 r0.heap.size 34 #[.int .i64 0, .slice none 0 0] := by rw [hr3]; exact kF2.alloc _
          have oD23 : r3.ownsRow w.heap.size 4 1 (.slice D2 n1 D2c) n1 (BS S.bs) := by rw [hr3]; exact oD22.alloc _
          have oD33 : r3.ownsRow w.heap.size 9 1 (.slice D3 n2 D3c) n2 (SS S.ds) := by rw [hr3]; exact oD32.alloc _
          have kO3 : Blk r3 r2.heap.size 31 #[.slice none 0 0, .slice none 0 0] := by rw [hr3]; exact Blk.new' _ _ _ _ rfl
          have laO3 : w.heap.size ≤ r2.heap.size := bw2.size
          have lq3X : w.heap.size < r2.heap.size := kX2.lt
          have lq3Y : (w.heap.size + 1) < r2.heap.size := kY2.lt
          have lq3RS : (w.heap.size + 2) < r2.heap.size := kRS2.lt
          have lq3RF : (w.heap.size + 3) < r2.heap.size := kRF2.lt
          have lq3F : r0.heap.size < r2.heap.size := kF2.lt
          clear hr3
          refine wpAnyH_ready (rs := [3]) (by kernel_rfl) (by simp) ?_
          refine AllReadyH.cons (o := ?oi54) ?hi54 (fun K hK => ?br54) AllReadyH.nil
          case hi54 => (conv => lhs; simp only [List.getElem?_toArray, List.getElem?_cons_zero, List.getElem?_cons_succ]); try exact rfl
          case br54 =>
            go_simp
            go_at_call 31
            refine (copyFil_impl _ F HF.out _ (HFil.out _ bw3)).mono ?_
            rintro e r4 ⟨_, rfl, hOF, hb4r⟩
            have bw4 : Below w.heap.size w r4 := bw3.trans (hb4r.mono bw3.size)
            have kX4 : Blk r4 w.heap.size 31 #[.slice A1 n1 c1, .slice A2 n2 c2] := kX3.below hb4r kX3.lt
            have kY4 : Blk r4 (w.heap.size + 1) 34 #[.int .i64 sz, .slice A3 n3 c3] := kY3.below hb4r kY3.lt
            have kRS4 : Blk r4 (w.heap.size + 2) 31 #[.slice none 0 0, .slice none 0 0] := kRS3.below hb4r kRS3.lt
            have kRF4 : Blk r4 (w.heap.size + 3) 34 #[.int .i64 0, .slice none 0 0] := kRF3.below hb4r kRF3.lt
            have kF4 : Blk r4 r0.heap.size 34 #[.int .i64 0, .slice none 0 0] := kF3.below hb4r kF3.lt
            have kO4 : Blk r4 r2.heap.size 31 #[.slice none 0 0, .slice none 0 0] := kO3.below hb4r kO3.lt
            have oD24 : r4.ownsRow w.heap.size 4 1 (.slice D2 n1 D2c) n1 (BS S.bs) := own_below oD23 hb4r (Nat.le_refl _)
            have oD34 : r4.ownsRow w.heap.size 9 1 (.slice D3 n2 D3c) n2 (SS S.ds) := own_below oD33 hb4r (Nat.le_refl _)
            obtain ⟨_, rfl, oa⟩ := hOF
            rw [Hl3.out] at oa
            rw [Hsz.out]
            obtain ⟨D4, D4c, rfl, _, _, _⟩ := own_vals oa
            have oD44 := own_more oa bw3.size
            clear oa
            refine hK.out _ _ (by exact ⟨(kX4).get 0 rfl, (kX4).get 1 rfl, (kY4).get 0 rfl, (kY4).get 1 rfl⟩) (fun _ => ?_)
            clear hK K
            refine wpAnyH_ready (rs := [6]) (by kernel_rfl) (by simp) ?_
            refine AllReadyH.cons (o := ?oi55) ?hi55 (fun K hK => ?br55) AllReadyH.nil
            case hi55 => (conv => lhs; simp only [List.getElem?_toArray, List.getElem?_cons_zero, List.getElem?_cons_succ]); try exact rfl
            case br55 =>
              have x5_0 := kO4.get (x := .slice none 0 0) 0 rfl
              have f5_0 := kO4.frozen 0
              have x5_1 := kO4.get (x := .slice none 0 0) 1 rfl
              have f5_1 := kO4.frozen 1
              have lE5 := kO4.lt
              have neX5 : w.heap.size ≠ r2.heap.size := by have := kO4.lt; have := kX4.lt; first | exact Blk.ne_ kX4 kO4 (by decide) | omega
              have neY5 : (w.heap.size + 1) ≠ r2.heap.size := by have := kO4.lt; have := kY4.lt; first | exact Blk.ne_ kY4 kO4 (by decide) | omega
              have neRS5 : (w.heap.size + 2) ≠ r2.heap.size := by have := kO4.lt; have := kRS4.lt; first | exact Blk.ne_ kRS4 kO4 (by decide) | omega
              have neRF5 : (w.heap.size + 3) ≠ r2.heap.size := by have := kO4.lt; have := kRF4.lt; first | exact Blk.ne_ kRF4 kO4 (by decide) | omega
              have neF5 : r0.heap.size ≠ r2.heap.size := by have := kO4.lt; have := kF4.lt; first | exact Blk.ne_ kF4 kO4 (by decide) | omega
              go_simp
              refine hK.out _ _ (by exact ⟨(((kX4).far (p := ⟨r2.heap.size, 0, none⟩) neX5 (.slice D2 n1 D2c)).far (p := ⟨r2.heap.size, 1, none⟩) neX5 (.slice D3 n2 D3c)).get 0 rfl, (((kX4).far (p := ⟨r2.heap.size, 0, none⟩) neX5 (.slice D2 n1 D2c)).far (p := ⟨r2.heap.size, 1, none⟩) neX5 (.slice D3 n2 D3c)).get 1 rfl, (((kY4).far (p := ⟨r2.heap.size, 0, none⟩) neY5 (.slice D2 n1 D2c)).far (p := ⟨r2.heap.size, 1, none⟩) neY5 (.slice D3 n2 D3c)).get 0 rfl, (((kY4).far (p := ⟨r2.heap.size, 0, none⟩) neY5 (.slice D2 n1 D2c)).far (p := ⟨r2.heap.size, 1, none⟩) neY5 (.slice D3 n2 D3c)).get 1 rfl⟩) (fun _ => ?_)
              clear hK K x5_0 f5_0 x5_1 f5_1 lE5
              refine foldH ?_
              intro r5 hr5
              have bw5 : Below w.heap.size w r5 := by rw [hr5]; exact belC (belC (bw4) _ 0 laO3 (.slice D2 n1 D2c)) _ 1 laO3 (.slice D3 n2 D3c)
              have kX5 : Blk r5 w.heap.size 31 #[.slice A1 n1 c1, .slice A2 n2 c2] := by rw [hr5]; exact ((kX4).far (p := ⟨r2.heap.size, 0, none⟩) neX5 (.slice D2 n1 D2c)).far (p := ⟨r2.heap.size, 1, none⟩) neX5 (.slice D3 n2 D3c)
              have kY5 : Blk r5 (w.heap.size + 1) 34 #[.int .i64 sz, .slice A3 n3 c3] := by rw [hr5]; exact ((kY4).far (p := ⟨r2.heap.size, 0, none⟩) neY5 (.slice D2 n1 D2c)).far (p := ⟨r2.heap.size, 1, none⟩) neY5 (.slice D3 n2 D3c)
              have kRS5 : Blk r5 (w.heap.size + 2) 31 #[.slice none 0 0, .slice none 0 0] := by rw [hr5]; exact ((kRS4).far (p := ⟨r2.heap.size, 0, none⟩) neRS5 (.slice D2 n1 D2c)).far (p := ⟨r2.heap.size, 1, none⟩) neRS5 (.slice D3 n2 D3c)
              have kRF5 : Blk r5 (w.heap.size + 3) 34 #[.int .i64 0, .slice none 0 0] := by rw [hr5]; exact ((kRF4).far (p := ⟨r2.heap.size, 0, none⟩) neRF5 (.slice D2 n1 D2c)).far (p := ⟨r2.heap.size, 1, none⟩) neRF5 (.slice D3 n2 D3c)
              have kF5 : Blk r5 r0.heap.size 34 #[.int .i64 0, .slice none 0 0] := by rw [hr5]; exact ((kF4).far (p := ⟨r2.heap.size, 0, none⟩) neF5 (.slice D2 n1 D2c)).far (p := ⟨r2.heap.size, 1, none⟩) neF5 (.slice D3 n2 D3c)
              have kO5 : Blk r5 r2.heap.size 31 #[.slice D2 n1 D2c, .slice D3 n2 D3c] := by rw [hr5]; exact ((kO4.put 0 (.slice D2 n1 D2c) #[.slice D2 n1 D2c, .slice none 0 0] rfl).put 1 (.slice D3 n2 D3c) #[.slice D2 n1 D2c, .slice D3 n2 D3c] rfl)
              have oD25 : r5.ownsRow w.heap.size 4 1 (.slice D2 n1 D2c) n1 (BS S.bs) := by rw [hr5]; exact own_farT (own_farT (oD24) kO4 (by decide) 0 (.slice D2 n1 D2c)) (kO4.put 0 (.slice D2 n1 D2c) #[.slice D2 n1 D2c, .slice none 0 0] rfl) (by decide) 1 (.slice D3 n2 D3c)
              have oD35 : r5.ownsRow w.heap.size 9 1 (.slice D3 n2 D3c) n2 (SS S.ds) := by rw [hr5]; exact own_farT (own_farT (oD34) kO4 (by decide) 0 (.slice D2 n1 D2c)) (kO4.put 0 (.slice D2 n1 D2c) #[.slice D2 n1 D2c, .slice none 0 0] rfl) (by decide) 1 (.slice D3 n2 D3c)
              have oD45 : r5.ownsRow w.heap.size 76 3 (.slice D4 n3 D4c) n3 (XS F.xs) := by rw [hr5]; exact own_farT (own_farT (oD44) kO4 (by decide) 0 (.slice D2 n1 D2c)) (kO4.put 0 (.slice D2 n1 D2c) #[.slice D2 n1 D2c, .slice none 0 0] rfl) (by decide) 1 (.slice D3 n2 D3c)
              clear hr5
              refine wpAnyH_ready (rs := [7]) (by kernel_rfl) (by simp) ?_
              refine AllReadyH.cons (o := ?oi56) ?hi56 (fun K hK => ?br56) AllReadyH.nil
              case hi56 => (conv => lhs; simp only [List.getElem?_toArray, List.getElem?_cons_zero, List.getElem?_cons_succ]); try exact rfl
              case br56 =>
                have x6_0 := kF5.get (x := .int .i64 0) 0 rfl
                have f6_0 := kF5.frozen 0
                have x6_1 := kF5.get (x := .slice none 0 0) 1 rfl
                have f6_1 := kF5.frozen 1
                have lE6 := kF5.lt
                have neX6 : w.heap.size ≠ r0.heap.size := by have := kF5.lt; have := kX5.lt; first | exact Blk.ne_ kX5 kF5 (by decide) | omega
                have neY6 : (w.heap.size + 1) ≠ r0.heap.size := by have := kF5.lt; have := kY5.lt; first | exact Blk.ne_ kY5 kF5 (by decide) | omega
                have neRS6 : (w.heap.size + 2) ≠ r0.heap.size := by have := kF5.lt; have := kRS5.lt; first | exact Blk.ne_ kRS5 kF5 (by decide) | omega
                have neRF6 : (w.heap.size + 3) ≠ r0.heap.size := by have := kF5.lt; have := kRF5.lt; first | exact Blk.ne_ kRF5 kF5 (by decide) | omega
                have neO6 : r2.heap.size ≠ r0.heap.size := by have := kF5.lt; have := kO5.lt; first | exact Blk.ne_ kO5 kF5 (by decide) | omega
                go_simp
                refine hK.out _ _ (by exact ⟨(((kX5).far (p := ⟨r0.heap.size, 0, none⟩) neX6 (.int .i64 sz)).far (p := ⟨r0.heap.size, 1, none⟩) neX6 (.slice D4 n3 D4c)).get 0 rfl, (((kX5).far (p := ⟨r0.heap.size, 0, none⟩) neX6 (.int .i64 sz)).far (p := ⟨r0.heap.size, 1, none⟩) neX6 (.slice D4 n3 D4c)).get 1 rfl, (((kY5).far (p := ⟨r0.heap.size, 0, none⟩) neY6 (.int .i64 sz)).far (p := ⟨r0.heap.size, 1, none⟩) neY6 (.slice D4 n3 D4c)).get 0 rfl, (((kY5).far (p := ⟨r0.heap.size, 0, none⟩) neY6 (.int .i64 sz)).far (p := ⟨r0.heap.size, 1, none⟩) neY6 (.slice D4 n3 D4c)).get 1 rfl⟩) (fun _ => ?_)
                clear hK K x6_0 f6_0 x6_1 f6_1 lE6
                refine foldH ?_
                intro r6 hr6
                have bw6 : Below w.heap.size w r6 := by rw [hr6]; exact belC (belC (bw5) _ 0 laF1 (.int .i64 sz)) _ 1 laF1 (.slice D4 n3 D4c)
                have kX6 : Blk r6 w.heap.size 31 #[.slice A1 n1 c1, .slice A2 n2 c2] := by rw [hr6]; exact ((kX5).far (p := ⟨r0.heap.size, 0, none⟩) neX6 (.int .i64 sz)).far (p := ⟨r0.heap.size, 1, none⟩) neX6 (.slice D4 n3 D4c)
                have kY6 : Blk r6 (w.heap.size + 1) 34 #[.int .i64 sz, .slice A3 n3 c3] := by rw [hr6]; exact ((kY5).far (p := ⟨r0.heap.size, 0, none⟩) neY6 (.int .i64 sz)).far (p := ⟨r0.heap.size, 1, none⟩) neY6 (.slice D4 n3 D4c)
                have kRS6 : Blk r6 (w.heap.size + 2) 31 #[.slice none 0 0, .slice none 0 0] := by rw [hr6]; exact ((kRS5).far (p := ⟨r0.heap.size, 0, none⟩) neRS6 (.int .i64 sz)).far (p := ⟨r0.heap.size, 1, none⟩) neRS6 (.slice D4 n3 D4c)
                have kRF6 : Blk r6 (w.heap.size + 3) 34 #[.int .i64 0, .slice none 0 0] := by rw [hr6]; exact ((kRF5).far (p := ⟨r0.heap.size, 0, none⟩) neRF6 (.int .i64 sz)).far (p := ⟨r0.heap.size, 1, none⟩) neRF6 (.slice D4 n3 D4c)
                have kF6 : Blk r6 r0.heap.size 34 #[.int .i64 sz, .slice D4 n3 D4c] := by rw [hr6]; exact ((kF5.put 0 (.int .i64 sz) #[.int .i64 sz, .slice none 0 0] rfl).put 1 (.slice D4 n3 D4c) #[.int .i64 sz, .slice D4 n3 D4c] rfl)
                have kO6 : Blk r6 r2.heap.size 31 #[.slice D2 n1 D2c, .slice D3 n2 D3c] := by rw [hr6]; exact ((kO5).far (p := ⟨r0.heap.size, 0, none⟩) neO6 (.int .i64 sz)).far (p := ⟨r0.heap.size, 1, none⟩) neO6 (.slice D4 n3 D4c)
                have oD26 : r6.ownsRow w.heap.size 4 1 (.slice D2 n1 D2c) n1 (BS S.bs) := by rw [hr6]; exact own_farT (own_farT (oD25) kF5 (by decide) 0 (.int .i64 sz)) (kF5.put 0 (.int .i64 sz) #[.int .i64 sz, .slice none 0 0] rfl) (by decide) 1 (.slice D4 n3 D4c)
                have oD36 : r6.ownsRow w.heap.size 9 1 (.slice D3 n2 D3c) n2 (SS S.ds) := by rw [hr6]; exact own_farT (own_farT (oD35) kF5 (by decide) 0 (.int .i64 sz)) (kF5.put 0 (.int .i64 sz) #[.int .i64 sz, .slice none 0 0] rfl) (by decide) 1 (.slice D4 n3 D4c)
                have oD46 : r6.ownsRow w.heap.size 76 3 (.slice D4 n3 D4c) n3 (XS F.xs) := by rw [hr6]; exact own_farT (own_farT (oD45) kF5 (by decide) 0 (.int .i64 sz)) (kF5.put 0 (.int .i64 sz) #[.int .i64 sz, .slice none 0 0] rfl) (by decide) 1 (.slice D4 n3 D4c)
                clear hr6
                refine wpAnyH_done (by kernel_rfl) ?_ _
                have hl0 := kRF0.lt
                go_wp2_with fail
                go_meet
                case rel => exact ⟨r2.heap.size, r0.heap.size, D2, D2c, D3, D3c, D4, D4c, rfl, rfl, by have := laO3; have := bw0.size; omega, by omega, Lib.hid kX6, Lib.hid kY6, Lib.hid kRS6, Lib.hid kRF6, Lib.hid kO6, Lib.hid kF6, Lib.hid oD26, Lib.hid oD36, Lib.hid oD46, bw6⟩
      case br48 =>
        go_simp
        refine hK.out _ _ (by exact ⟨(kX1.alloc (.cells #[.slice none 0 0, .slice none 0 0] 31)).get 0 rfl, (kX1.alloc (.cells #[.slice none 0 0, .slice none 0 0] 31)).get 1 rfl, (kY1.alloc (.cells #[.slice none 0 0, .slice none 0 0] 31)).get 0 rfl, (kY1.alloc (.cells #[.slice none 0 0, .slice none 0 0] 31)).get 1 rfl⟩) (fun _ => ?_)
        clear hK K
        refine foldH ?_
        intro r2 hr2
        have bw2 : Below w.heap.size w r2 := by rw [hr2]; exact belA bw1 _
        have kX2 : Blk r2 w.heap.size 31 #[.slice A1 n1 c1, .slice A2 n2 c2] := by rw [hr2]; exact kX1.alloc _
        have kY2 : Blk r2 (w.heap.size + 1) 34 #[.int .i64 sz, .slice A3 n3 c3] := by rw [hr2]; exact kY1.alloc _
        have kRS2 : Blk r2 (w.heap.size + 2) 31 #[.slice none 0 0, .slice none 0 0] := by rw [hr2]; exact kRS1.alloc _
        have kRF2 : Blk r2 (w.heap.size + 3) 34 #[.int .i64 0, .slice none 0 0] := by rw [hr2]; exact kRF1.alloc _
        have kF2 : Blk r2 r0.heap.size 34 #[.int .i64 0, .slice none 0 0] := by rw [hr2]; exact kF1.alloc _
        have kO2 : Blk r2 r1.heap.size 31 #[.slice none 0 0, .slice none 0 0] := by rw [hr2]; exact Blk.new' _ _ _ _ rfl
        have laO2 : w.heap.size ≤ r1.heap.size := bw1.size
        have lq2X : w.heap.size < r1.heap.size := kX1.lt
        have lq2Y : (w.heap.size + 1) < r1.heap.size := kY1.lt
        have lq2RS : (w.heap.size + 2) < r1.heap.size := kRS1.lt
        have lq2RF : (w.heap.size + 3) < r1.heap.size := kRF1.lt
        have lq2F : r0.heap.size < r1.heap.size := kF1.lt
        clear hr2
        refine wpAnyH_ready (rs := [1]) (by kernel_rfl) (by simp) ?_
        refine AllReadyH.cons (o := ?oi57) ?hi57 (fun K hK => ?br57) AllReadyH.nil
        case hi57 => (conv => lhs; simp only [List.getElem?_toArray, List.getElem?_cons_zero, List.getElem?_cons_succ]); try exact rfl
        case br57 =>
          go_simp
          go_at_call 30
          refine (copyStore_impl _ S HS.out _ (HSto.out _ bw2)).mono ?_
          rintro e r3 ⟨_, rfl, hOS, hb3r⟩
          have bw3 : Below w.heap.size w r3 := bw2.trans (hb3r.mono bw2.size)
          have kX3 : Blk r3 w.heap.size 31 #[.slice A1 n1 c1, .slice A2 n2 c2] := kX2.below hb3r kX2.lt
          have kY3 : Blk r3 (w.heap.size + 1) 34 #[.int .i64 sz, .slice A3 n3 c3] := kY2.below hb3r kY2.lt
          have kRS3 : Blk r3 (w.heap.size + 2) 31 #[.slice none 0 0, .slice none 0 0] := kRS2.below hb3r kRS2.lt
          have kRF3 : Blk r3 (w.heap.size + 3) 34 #[.int .i64 0, .slice none 0 0] := kRF2.below hb3r kRF2.lt
          have kF3 : Blk r3 r0.heap.size 34 #[.int .i64 0, .slice none 0 0] := kF2.below hb3r kF2.lt
          have kO3 : Blk r3 r1.heap.size 31 #[.slice none 0 0, .slice none 0 0] := kO2.below hb3r kO2.lt
          obtain ⟨_, _, rfl, oa, ob⟩ := hOS
          rw [Hl1.out] at oa
          rw [Hl2.out] at ob
          obtain ⟨D2, D2c, rfl, _, _, _⟩ := own_vals oa
          obtain ⟨D3, D3c, rfl, _, _, _⟩ := own_vals ob
          have oD23 := own_more oa bw2.size
          have oD33 := own_more ob bw2.size
          clear oa ob
          refine hK.out _ _ (by exact ⟨(kX3).get 0 rfl, (kX3).get 1 rfl, (kY3).get 0 rfl, (kY3).get 1 rfl⟩) (fun _ => ?_)
          clear hK K
          refine wpAnyH_ready (rs := [3]) (by kernel_rfl) (by simp) ?_
          refine AllReadyH.cons (o := ?oi58) ?hi58 (fun K hK => ?br58) AllReadyH.nil
          case hi58 => (conv => lhs; simp only [List.getElem?_toArray, List.getElem?_cons_zero, List.getElem?_cons_succ]); try exact rfl
          case br58 =>
            go_simp
            go_at_call 31
            refine (copyFil_impl _ F HF.out _ (HFil.out _ bw3)).mono ?_
            rintro e r4 ⟨_, rfl, hOF, hb4r⟩
            have bw4 : Below w.heap.size w r4 := bw3.trans (hb4r.mono bw3.size)
            have kX4 : Blk r4 w.heap.size 31 #[.slice A1 n1 c1, .slice A2 n2 c2] := kX3.below hb4r kX3.lt
            have kY4 : Blk r4 (w.heap.size + 1) 34 #[.int .i64 sz, .slice A3 n3 c3] := kY3.below hb4r kY3.lt
            have kRS4 : Blk r4 (w.heap.size + 2) 31 #[.slice none 0 0, .slice none 0 0] := kRS3.below hb4r kRS3.lt
            have kRF4 : Blk r4 (w.heap.size + 3) 34 #[.int .i64 0, .slice none 0 0] := kRF3.below hb4r kRF3.lt
            have kF4 : Blk r4 r0.heap.size 34 #[.int .i64 0, .slice none 0 0] := kF3.below hb4r kF3.lt
            have kO4 : Blk r4 r1.heap.size 31 #[.slice none 0 0, .slice none 0 0] := kO3.below hb4r kO3.lt
            have oD24 : r4.ownsRow w.heap.size 4 1 (.slice D2 n1 D2c) n1 (BS S.bs) := own_below oD23 hb4r (Nat.le_refl _)
            have oD34 : r4.ownsRow w.heap.size 9 1 (.slice D3 n2 D3c) n2 (SS S.ds) := own_below oD33 hb4r (Nat.le_refl _)
            obtain ⟨_, rfl, oa⟩ := hOF
            rw [Hl3.out] at oa
            rw [Hsz.out]
            obtain ⟨D4, D4c, rfl, _, _, _⟩ := own_vals oa
            have oD44 := own_more oa bw3.size
            clear oa
            refine hK.out _ _ (by exact ⟨(kX4).get 0 rfl, (kX4).get 1 rfl, (kY4).get 0 rfl, (kY4).get 1 rfl⟩) (fun _ => ?_)
            clear hK K
            refine wpAnyH_ready (rs := [6]) (by kernel_rfl) (by simp) ?_
            refine AllReadyH.cons (o := ?oi59) ?hi59 (fun K hK => ?br59) AllReadyH.nil
            case hi59 => (conv => lhs; simp only [List.getElem?_toArray, List.getElem?_cons_zero, List.getElem?_cons_succ]); try exact rfl
            case br59 =>
              have x5_0 := kO4.get (x := .slice none 0 0) 0 rfl
              have f5_0 := kO4.frozen 0
              have x5_1 := kO4.get (x := .slice none 0 0) 1 rfl
              have f5_1 := kO4.frozen 1
              have lE5 := kO4.lt
              have neX5 : w.heap.size ≠ r1.heap.size := by have := kO4.lt; have := kX4.lt; first | exact Blk.ne_ kX4 kO4 (by decide) | omega
              have neY5 : (w.heap.size + 1) ≠ r1.heap.size := by have := kO4.lt; have := kY4.lt; first | exact Blk.ne_ kY4 kO4 (by decide) | omega
              have neRS5 : (w.heap.size + 2) ≠ r1.heap.size := by have := kO4.lt; have := kRS4.lt; first | exact Blk.ne_ kRS4 kO4 (by decide) | omega
              have neRF5 : (w.heap.size + 3) ≠ r1.heap.size := by have := kO4.lt; have := kRF4.lt; first | exact Blk.ne_ kRF4 kO4 (by decide) | omega
              have neF5 : r0.heap.size ≠ r1.heap.size := by have := kO4.lt; have := kF4.lt; first | exact Blk.ne_ kF4 kO4 (by decide) | omega
              go_simp
              refine hK.out _ _ (by exact ⟨(((kX4).far (p := ⟨r1.heap.size, 0, none⟩) neX5 (.slice D2 n1 D2c)).far (p := ⟨r1.heap.size, 1, none⟩) neX5 (.slice D3 n2 D3c)).get 0 rfl, (((kX4).far (p := ⟨r1.heap.size, 0, none⟩) neX5 (.slice D2 n1 D2c)).far (p := ⟨r1.heap.size, 1, none⟩) neX5 (.slice D3 n2 D3c)).get 1 rfl, (((kY4).far (p := ⟨r1.heap.size, 0, none⟩) neY5 (.slice D2 n1 D2c)).far (p := ⟨r1.heap.size, 1, none⟩) neY5 (.slice D3 n2 D3c)).get 0 rfl, (((kY4).far (p := ⟨r1.heap.size, 0, none⟩) neY5 (.slice D2 n1 D2c)).far (p := ⟨r1.heap.size, 1, none⟩) neY5 (.slice D3 n2 D3c)).get 1 rfl⟩) (fun _ => ?_)
              clear hK K x5_0 f5_0 x5_1 f5_1 lE5
              refine foldH ?_
              intro r5 hr5
              have bw5 : Below w.heap.size w r5 := by rw [hr5]; exact belC (belC (bw4) _ 0 laO2 (.slice D2 n1 D2c)) _ 1 laO2 (.slice D3 n2 D3c)
              have kX5 : Blk r5 w.heap.size 31 #[.slice A1 n1 c1, .slice A2 n2 c2] := by rw [hr5]; exact ((kX4).far (p := ⟨r1.heap.size, 0, none⟩) neX5 (.slice D2 n1 D2c)).far (p := ⟨r1.heap.size, 1, none⟩) neX5 (.slice D3 n2 D3c)
              have kY5 : Blk r5 (w.heap.size + 1) 34 #[.int .i64 sz, .slice A3 n3 c3] := by rw [hr5]; exact ((kY4).far (p := ⟨r1.heap.size, 0, none⟩) neY5 (.slice D2 n1 D2c)).far (p := ⟨r1.heap.size, 1, none⟩) neY5 (.slice D3 n2 D3c)
              have kRS5 : Blk r5 (w.heap.size + 2) 31 #[.slice none 0 0, .slice none 0 0] := by rw [hr5]; exact ((kRS4).far (p := ⟨r1.heap.size, 0, none⟩) neRS5 (.slice D2 n1 D2c)).far (p := ⟨r1.heap.size, 1, none⟩) neRS5 (.slice D3 n2 D3c)
              have kRF5 : Blk r5 (w.heap.size + 3) 34 #[.int .i64 0, .slice none 0 0] := by rw [hr5]; exact ((kRF4).far (p := ⟨r1.heap.size, 0, none⟩) neRF5 (.slice D2 n1 D2c)).far (p := ⟨r1.heap.size, 1, none⟩) neRF5 (.slice D3 n2 D3c)
              have kF5 : Blk r5 r0.heap.size 34 #[.int .i64 0, .slice none 0 0] := by rw [hr5]; exact ((kF4).far (p := ⟨r1.heap.size, 0, none⟩) neF5 (.slice D2 n1 D2c)).far (p := ⟨r1.heap.size, 1, none⟩) neF5 (.slice D3 n2 D3c)
              have kO5 : Blk r5 r1.heap.size 31 #[.slice D2 n1 D2c, .slice D3 n2 D3c] := by rw [hr5]; exact ((kO4.put 0 (.slice D2 n1 D2c) #[.slice D2 n1 D2c, .slice none 0 0] rfl).put 1 (.slice D3 n2 D3c) #[.slice D2 n1 D2c, .slice D3 n2 D3c] rfl)
              have oD25 : r5.ownsRow w.heap.size 4 1 (.slice D2 n1 D2c) n1 (BS S.bs) := by rw [hr5]; exact own_farT (own_farT (oD24) kO4 (by decide) 0 (.slice D2 n1 D2c)) (kO4.put 0 (.slice D2 n1 D2c) #[.slice D2 n1 D2c, .slice none 0 0] rfl) (by decide) 1 (.slice D3 n2 D3c)
              have oD35 : r5.ownsRow w.heap.size 9 1 (.slice D3 n2 D3c) n2 (SS S.ds) := by rw [hr5]; exact own_farT (own_farT (oD34) kO4 (by decide) 0 (.slice D2 n1 D2c)) (kO4.put 0 (.slice D2 n1 D2c) #[.slice D2 n1 D2c, .slice none 0 0] rfl) (by decide) 1 (.slice D3 n2 D3c)
              have oD45 : r5.ownsRow w.heap.size 76 3 (.slice D4 n3 D4c) n3 (XS F.xs) := by rw [hr5]; exact own_farT (own_farT (oD44) kO4 (by decide) 0 (.slice D2 n1 D2c)) (kO4.put 0 (.slice D2 n1 D2c) #[.slice D2 n1 D2c, .slice none 0 0] rfl) (by decide) 1 (.slice D3 n2 D3c)
              clear hr5
              refine wpAnyH_ready (rs := [7]) (by kernel_rfl) (by simp) ?_
              refine AllReadyH.cons (o := ?oi60) ?hi60 (fun K hK => ?br60) AllReadyH.nil
              case hi60 => (conv => lhs; simp only [List.getElem?_toArray, List.getElem?_cons_zero, List.getElem?_cons_succ]); try exact rfl
              case br60 =>
                have x6_0 := kF5.get (x := .int .i64 0) 0 rfl
                have f6_0 := kF5.frozen 0
                have x6_1 := kF5.get (x := .slice none 0 0) 1 rfl
                have f6_1 := kF5.frozen 1
                have lE6 := kF5.lt
                have neX6 : w.heap.size ≠ r0.heap.size := by have := kF5.lt; have := kX5.lt; first | exact Blk.ne_ kX5 kF5 (by decide) | omega
                have neY6 : (w.heap.size + 1) ≠ r0.heap.size := by have := kF5.lt; have := kY5.lt; first | exact Blk.ne_ kY5 kF5 (by decide) | omega
                have neRS6 : (w.heap.size + 2) ≠ r0.heap.size := by have := kF5.lt; have := kRS5.lt; first | exact Blk.ne_ kRS5 kF5 (by decide) | omega
                have neRF6 : (w.heap.size + 3) ≠ r0.heap.size := by have := kF5.lt; have := kRF5.lt; first | exact Blk.ne_ kRF5 kF5 (by decide) | omega
                have neO6 : r1.heap.size ≠ r0.heap.size := by have := kF5.lt; have := kO5.lt; first | exact Blk.ne_ kO5 kF5 (by decide) | omega
                go_simp
                refine hK.out _ _ (by exact ⟨(((kX5).far (p := ⟨r0.heap.size, 0, none⟩) neX6 (.int .i64 sz)).far (p := ⟨r0.heap.size, 1, none⟩) neX6 (.slice D4 n3 D4c)).get 0 rfl, (((kX5).far (p := ⟨r0.heap.size, 0, none⟩) neX6 (.int .i64 sz)).far (p := ⟨r0.heap.size, 1, none⟩) neX6 (.slice D4 n3 D4c)).get 1 rfl, (((kY5).far (p := ⟨r0.heap.size, 0, none⟩) neY6 (.int .i64 sz)).far (p := ⟨r0.heap.size, 1, none⟩) neY6 (.slice D4 n3 D4c)).get 0 rfl, (((kY5).far (p := ⟨r0.heap.size, 0, none⟩) neY6 (.int .i64 sz)).far (p := ⟨r0.heap.size, 1, none⟩) neY6 (.slice D4 n3 D4c)).get 1 rfl⟩) (fun _ => ?_)
                clear hK K x6_0 f6_0 x6_1 f6_1 lE6
                refine foldH ?_
                intro r6 hr6
                have bw6 : Below w.heap.size w r6 := by rw [hr6]; exact belC (belC (bw5) _ 0 laF1 (.int .i64 sz)) _ 1 laF1 (.slice D4 n3 D4c)
                have kX6 : Blk r6 w.heap.size 31 #[.slice A1 n1 c1, .slice A2 n2 c2] := by rw [hr6]; exact ((kX5).far (p := ⟨r0.heap.size, 0, none⟩) neX6 (.int .i64 sz)).far (p := ⟨r0.heap.size, 1, none⟩) neX6 (.slice D4 n3 D4c)
                have kY6 : Blk r6 (w.heap.size + 1) 34 #[.int .i64 sz, .slice A3 n3 c3] := by rw [hr6]; exact ((kY5).far (p := ⟨r0.heap.size, 0, none⟩) neY6 (.int .i64 sz)).far (p := ⟨r0.heap.size, 1, none⟩) neY6 (.slice D4 n3 D4c)
                have kRS6 : Blk r6 (w.heap.size + 2) 31 #[.slice none 0 0, .slice none 0 0] := by rw [hr6]; exact ((kRS5).far (p := ⟨r0.heap.size, 0, none⟩) neRS6 (.int .i64 sz)).far (p := ⟨r0.heap.size, 1, none⟩) neRS6 (.slice D4 n3 D4c)
                have kRF6 : Blk r6 (w.heap.size + 3) 34 #[.int .i64 0, .slice none 0 0] := by rw [hr6]; exact ((kRF5).far (p := ⟨r0.heap.size, 0, none⟩) neRF6 (.int .i64 sz)).far (p := ⟨r0.heap.size, 1, none⟩) neRF6 (.slice D4 n3 D4c)
                have kF6 : Blk r6 r0.heap.size 34 #[.int .i64 sz, .slice D4 n3 D4c] := by rw [hr6]; exact ((kF5.put 0 (.int .i64 sz) #[.int .i64 sz, .slice none 0 0] rfl).put 1 (.slice D4 n3 D4c) #[.int .i64 sz, .slice D4 n3 D4c] rfl)
                have kO6 : Blk r6 r1.heap.size 31 #[.slice D2 n1 D2c, .slice D3 n2 D3c] := by rw [hr6]; exact ((kO5).far (p := ⟨r0.heap.size, 0, none⟩) neO6 (.int .i64 sz)).far (p := ⟨r0.heap.size, 1, none⟩) neO6 (.slice D4 n3 D4c)
                have oD26 : r6.ownsRow w.heap.size 4 1 (.slice D2 n1 D2c) n1 (BS S.bs) := by rw [hr6]; exact own_farT (own_farT (oD25) kF5 (by decide) 0 (.int .i64 sz)) (kF5.put 0 (.int .i64 sz) #[.int .i64 sz, .slice none 0 0] rfl) (by decide) 1 (.slice D4 n3 D4c)
                have oD36 : r6.ownsRow w.heap.size 9 1 (.slice D3 n2 D3c) n2 (SS S.ds) := by rw [hr6]; exact own_farT (own_farT (oD35) kF5 (by decide) 0 (.int .i64 sz)) (kF5.put 0 (.int .i64 sz) #[.int .i64 sz, .slice none 0 0] rfl) (by decide) 1 (.slice D4 n3 D4c)
                have oD46 : r6.ownsRow w.heap.size 76 3 (.slice D4 n3 D4c) n3 (XS F.xs) := by rw [hr6]; exact own_farT (own_farT (oD45) kF5 (by decide) 0 (.int .i64 sz)) (kF5.put 0 (.int .i64 sz) #[.int .i64 sz, .slice none 0 0] rfl) (by decide) 1 (.slice D4 n3 D4c)
                clear hr6
                refine wpAnyH_done (by kernel_rfl) ?_ _
                have hl0 := kRF0.lt
                go_wp2_with fail
                go_meet
                case rel => exact ⟨r1.heap.size, r0.heap.size, D2, D2c, D3, D3c, D4, D4c, rfl, rfl, by have := laO2; have := bw0.size; omega, by omega, Lib.hid kX6, Lib.hid kY6, Lib.hid kRS6, Lib.hid kRF6, Lib.hid kO6, Lib.hid kF6, Lib.hid oD26, Lib.hid oD36, Lib.hid oD46, bw6⟩
  case rest =>
    obtain ⟨gO, gF, D2, D2c, D3, D3c, D4, D4c, rfl, rfl, lO, lF, kX, kY, kRS, kRF, kO, kF, oD2, oD3, oD4, BC⟩ := hcut
    rename_i wc0
    clear HX HY HRS HRF lX lY l4 B1
    have x0 := kX.out.get (x := .slice A1 n1 c1) 0 rfl
    have x1 := kX.out.get (x := .slice A2 n2 c2) 1 rfl
    have y0 := kY.out.get (x := .int .i64 sz) 0 rfl
    have y1 := kY.out.get (x := .slice A3 n3 c3) 1 rfl
    have lX := kX.out.lt
    have lY := kY.out.lt
    go_wp2_with fail
    clear x0 x1 y0 y1 lX lY
    refine (filOk_impl _ _ S F HS.out HF.out _ (HSto.out _ BC) (HFil.out _ BC)).mono ?_
    rintro e w2 ⟨rfl, hb2⟩
    replace kX := Lib.hid (kX.out.below hb2 kX.out.lt)
    replace kY := Lib.hid (kY.out.below hb2 kY.out.lt)
    replace kRS := Lib.hid (kRS.out.below hb2 kRS.out.lt)
    replace kRF := Lib.hid (kRF.out.below hb2 kRF.out.lt)
    replace kO := Lib.hid (kO.out.below hb2 kO.out.lt)
    replace kF := Lib.hid (kF.out.below hb2 kF.out.lt)
    replace oD2 := Lib.hid (own_below oD2.out hb2 (Nat.le_refl _))
    replace oD3 := Lib.hid (own_below oD3.out hb2 (Nat.le_refl _))
    replace oD4 := Lib.hid (own_below oD4.out hb2 (Nat.le_refl _))
    replace BC := BC.trans (hb2.mono BC.size)
    clear hb2
    have wds : IntKind.i64.wrap (48 - (data.size : Int)) = 48 - (data.size : Int) := by rw [IntKind.wrap_i64]; omega
    cases hok : filOkB S F
    · have HPe := Lib.hid (show S = S' ∧ F = F' ∧ false = ok by have h := HP.out; unfold writeP at h; rw [hok] at h; simpa using h)
      go_upto_region 3 with fail
      refine wp_region_held_drew (S := fun w' => w'.cell? ⟨gO, 0, none⟩ = some (.slice D2 n1 D2c) ∧ w'.cell? ⟨gO, 1, none⟩ = some (.slice D3 n2 D3c) ∧ w'.cell? ⟨gF, 0, none⟩ = some (.int .i64 sz) ∧ w'.cell? ⟨gF, 1, none⟩ = some (.slice D4 n3 D4c)) (by kernel_rfl) (by exact ⟨(kO.out).get 0 rfl, (kO.out).get 1 rfl, (kF.out).get 0 rfl, (kF.out).get 1 rfl⟩) (fun hHeld => ?_)
      clear hHeld
      refine foldH ?_
      intro r0 hr0
      have bw0 : Below w.heap.size w r0 := by rw [hr0]; exact (BC).drew
      have kX0 : Blk r0 w.heap.size 31 #[.slice A1 n1 c1, .slice A2 n2 c2] := by rw [hr0]; exact kX.out.drew
      have kY0 : Blk r0 (w.heap.size + 1) 34 #[.int .i64 sz, .slice A3 n3 c3] := by rw [hr0]; exact kY.out.drew
      have kRS0 : Blk r0 (w.heap.size + 2) 31 #[.slice none 0 0, .slice none 0 0] := by rw [hr0]; exact kRS.out.drew
      have kRF0 : Blk r0 (w.heap.size + 3) 34 #[.int .i64 0, .slice none 0 0] := by rw [hr0]; exact kRF.out.drew
      have kO0 : Blk r0 gO 31 #[.slice D2 n1 D2c, .slice D3 n2 D3c] := by rw [hr0]; exact kO.out.drew
      have kF0 : Blk r0 gF 34 #[.int .i64 sz, .slice D4 n3 D4c] := by rw [hr0]; exact kF.out.drew
      have oD20 : r0.ownsRow w.heap.size 4 1 (.slice D2 n1 D2c) n1 (BS S.bs) := by rw [hr0]; exact oD2.out
      have oD30 : r0.ownsRow w.heap.size 9 1 (.slice D3 n2 D3c) n2 (SS S.ds) := by rw [hr0]; exact oD3.out
      have oD40 : r0.ownsRow w.heap.size 76 3 (.slice D4 n3 D4c) n3 (XS F.xs) := by rw [hr0]; exact oD4.out
      clear hr0
      refine wpAnyH_take (i := 0) (oi := ?oi1101) (v := ?v1101) ?hi1101 ?hs1101 ?hf1101 ?hr1101 ?hQ1101 ?hy1101 ?hS1101 ?hrest1101
      case hi1101 => (conv => lhs; simp only [List.getElem?_toArray, List.getElem?_cons_zero]); try exact rfl
      case hs1101 => kernel_rfl
      case hf1101 => kernel_rfl
      case hr1101 => kernel_rfl
      case hQ1101 => exact fun _ _ _ h => h
      case hS1101 => exact ⟨(kO0).get 0 rfl, (kO0).get 1 rfl, (kF0).get 0 rfl, (kF0).get 1 rfl⟩
      case hy1101 => refine Or.inl ⟨by rfl, ?_⟩; intro w hSw; (try dsimp only at hSw); go_simp; (try with_reducible rfl)
      simp only [Act.put, List.setIfInBounds_toArray, List.set_cons_zero, List.set_cons_succ]
      refine wpAnyH_take (i := 1) (oi := ?oi1102) (v := ?v1102) ?hi1102 ?hs1102 ?hf1102 ?hr1102 ?hQ1102 ?hy1102 ?hS1102 ?hrest1102
      case hi1102 => (conv => lhs; simp only [List.getElem?_toArray, List.getElem?_cons_zero, List.getElem?_cons_succ]); try exact rfl
      case hs1102 => kernel_rfl
      case hf1102 => kernel_rfl
      case hr1102 => kernel_rfl
      case hQ1102 => exact fun _ _ _ h => h
      case hS1102 => exact ⟨(kO0).get 0 rfl, (kO0).get 1 rfl, (kF0).get 0 rfl, (kF0).get 1 rfl⟩
      case hy1102 => refine Or.inl ⟨by rfl, ?_⟩; intro w hSw; (try dsimp only at hSw); go_simp; (try with_reducible rfl)
      simp only [Act.put, List.setIfInBounds_toArray, List.set_cons_zero, List.set_cons_succ]
      refine wpAnyH_ready (rs := [2]) (by kernel_rfl) (by simp) ?_
      refine AllReadyH.cons (o := ?oi1103) ?hi1103 (fun K hK => ?br1103) AllReadyH.nil
      case hi1103 => (conv => lhs; simp only [List.getElem?_toArray, List.getElem?_cons_zero, List.getElem?_cons_succ]); try exact rfl
      case br1103 =>
        have x1_0 := kRS0.get (x := .slice none 0 0) 0 rfl
        have f1_0 := kRS0.frozen 0
        have x1_1 := kRS0.get (x := .slice none 0 0) 1 rfl
        have f1_1 := kRS0.frozen 1
        have lE1 := kRS0.lt
        have neX1 : w.heap.size ≠ (w.heap.size + 2) := by have := kRS0.lt; have := kX0.lt; first | exact Blk.ne_ kX0 kRS0 (by decide) | omega
        have neY1 : (w.heap.size + 1) ≠ (w.heap.size + 2) := by have := kRS0.lt; have := kY0.lt; first | exact Blk.ne_ kY0 kRS0 (by decide) | omega
        have neRF1 : (w.heap.size + 3) ≠ (w.heap.size + 2) := by have := kRS0.lt; have := kRF0.lt; first | exact Blk.ne_ kRF0 kRS0 (by decide) | omega
        have neO1 : gO ≠ (w.heap.size + 2) := by have := kRS0.lt; have := kO0.lt; first | exact Blk.ne_ kO0 kRS0 (by decide) | omega
        have neF1 : gF ≠ (w.heap.size + 2) := by have := kRS0.lt; have := kF0.lt; first | exact Blk.ne_ kF0 kRS0 (by decide) | omega
        go_simp
        refine hK.out _ _ (by exact ⟨(((kO0).far (p := ⟨(w.heap.size + 2), 0, none⟩) neO1 (.slice D2 n1 D2c)).far (p := ⟨(w.heap.size + 2), 1, none⟩) neO1 (.slice D3 n2 D3c)).get 0 rfl, (((kO0).far (p := ⟨(w.heap.size + 2), 0, none⟩) neO1 (.slice D2 n1 D2c)).far (p := ⟨(w.heap.size + 2), 1, none⟩) neO1 (.slice D3 n2 D3c)).get 1 rfl, (((kF0).far (p := ⟨(w.heap.size + 2), 0, none⟩) neF1 (.slice D2 n1 D2c)).far (p := ⟨(w.heap.size + 2), 1, none⟩) neF1 (.slice D3 n2 D3c)).get 0 rfl, (((kF0).far (p := ⟨(w.heap.size + 2), 0, none⟩) neF1 (.slice D2 n1 D2c)).far (p := ⟨(w.heap.size + 2), 1, none⟩) neF1 (.slice D3 n2 D3c)).get 1 rfl⟩) (fun _ => ?_)
        clear hK K x1_0 f1_0 x1_1 f1_1 lE1
        refine foldH ?_
        intro r1 hr1
        have bw1 : Below w.heap.size w r1 := by rw [hr1]; exact belC (belC (bw0) _ 0 (by omega) (.slice D2 n1 D2c)) _ 1 (by omega) (.slice D3 n2 D3c)
        have kX1 : Blk r1 w.heap.size 31 #[.slice A1 n1 c1, .slice A2 n2 c2] := by rw [hr1]; exact ((kX0).far (p := ⟨(w.heap.size + 2), 0, none⟩) neX1 (.slice D2 n1 D2c)).far (p := ⟨(w.heap.size + 2), 1, none⟩) neX1 (.slice D3 n2 D3c)
        have kY1 : Blk r1 (w.heap.size + 1) 34 #[.int .i64 sz, .slice A3 n3 c3] := by rw [hr1]; exact ((kY0).far (p := ⟨(w.heap.size + 2), 0, none⟩) neY1 (.slice D2 n1 D2c)).far (p := ⟨(w.heap.size + 2), 1, none⟩) neY1 (.slice D3 n2 D3c)
        have kRS1 : Blk r1 (w.heap.size + 2) 31 #[.slice D2 n1 D2c, .slice D3 n2 D3c] := by rw [hr1]; exact ((kRS0.put 0 (.slice D2 n1 D2c) #[.slice D2 n1 D2c, .slice none 0 0] rfl).put 1 (.slice D3 n2 D3c) #[.slice D2 n1 D2c, .slice D3 n2 D3c] rfl)
        have kRF1 : Blk r1 (w.heap.size + 3) 34 #[.int .i64 0, .slice none 0 0] := by rw [hr1]; exact ((kRF0).far (p := ⟨(w.heap.size + 2), 0, none⟩) neRF1 (.slice D2 n1 D2c)).far (p := ⟨(w.heap.size + 2), 1, none⟩) neRF1 (.slice D3 n2 D3c)
        have kO1 : Blk r1 gO 31 #[.slice D2 n1 D2c, .slice D3 n2 D3c] := by rw [hr1]; exact ((kO0).far (p := ⟨(w.heap.size + 2), 0, none⟩) neO1 (.slice D2 n1 D2c)).far (p := ⟨(w.heap.size + 2), 1, none⟩) neO1 (.slice D3 n2 D3c)
        have kF1 : Blk r1 gF 34 #[.int .i64 sz, .slice D4 n3 D4c] := by rw [hr1]; exact ((kF0).far (p := ⟨(w.heap.size + 2), 0, none⟩) neF1 (.slice D2 n1 D2c)).far (p := ⟨(w.heap.size + 2), 1, none⟩) neF1 (.slice D3 n2 D3c)
        have oD21 : r1.ownsRow w.heap.size 4 1 (.slice D2 n1 D2c) n1 (BS S.bs) := by rw [hr1]; exact own_farT (own_farT (oD20) kRS0 (by decide) 0 (.slice D2 n1 D2c)) (kRS0.put 0 (.slice D2 n1 D2c) #[.slice D2 n1 D2c, .slice none 0 0] rfl) (by decide) 1 (.slice D3 n2 D3c)
        have oD31 : r1.ownsRow w.heap.size 9 1 (.slice D3 n2 D3c) n2 (SS S.ds) := by rw [hr1]; exact own_farT (own_farT (oD30) kRS0 (by decide) 0 (.slice D2 n1 D2c)) (kRS0.put 0 (.slice D2 n1 D2c) #[.slice D2 n1 D2c, .slice none 0 0] rfl) (by decide) 1 (.slice D3 n2 D3c)
        have oD41 : r1.ownsRow w.heap.size 76 3 (.slice D4 n3 D4c) n3 (XS F.xs) := by rw [hr1]; exact own_farT (own_farT (oD40) kRS0 (by decide) 0 (.slice D2 n1 D2c)) (kRS0.put 0 (.slice D2 n1 D2c) #[.slice D2 n1 D2c, .slice none 0 0] rfl) (by decide) 1 (.slice D3 n2 D3c)
        clear hr1
        refine wpAnyH_ready (rs := [3]) (by kernel_rfl) (by simp) ?_
        refine AllReadyH.cons (o := ?oi1104) ?hi1104 (fun K hK => ?br1104) AllReadyH.nil
        case hi1104 => (conv => lhs; simp only [List.getElem?_toArray, List.getElem?_cons_zero, List.getElem?_cons_succ]); try exact rfl
        case br1104 =>
          have x2_0 := kRF1.get (x := .int .i64 0) 0 rfl
          have f2_0 := kRF1.frozen 0
          have x2_1 := kRF1.get (x := .slice none 0 0) 1 rfl
          have f2_1 := kRF1.frozen 1
          have lE2 := kRF1.lt
          have neX2 : w.heap.size ≠ (w.heap.size + 3) := by have := kRF1.lt; have := kX1.lt; first | exact Blk.ne_ kX1 kRF1 (by decide) | omega
          have neY2 : (w.heap.size + 1) ≠ (w.heap.size + 3) := by have := kRF1.lt; have := kY1.lt; first | exact Blk.ne_ kY1 kRF1 (by decide) | omega
          have neRS2 : (w.heap.size + 2) ≠ (w.heap.size + 3) := by have := kRF1.lt; have := kRS1.lt; first | exact Blk.ne_ kRS1 kRF1 (by decide) | omega
          have neO2 : gO ≠ (w.heap.size + 3) := by have := kRF1.lt; have := kO1.lt; first | exact Blk.ne_ kO1 kRF1 (by decide) | omega
          have neF2 : gF ≠ (w.heap.size + 3) := by have := kRF1.lt; have := kF1.lt; first | exact Blk.ne_ kF1 kRF1 (by decide) | omega
          go_simp
          refine hK.out _ _ (by exact ⟨(((kO1).far (p := ⟨(w.heap.size + 3), 0, none⟩) neO2 (.int .i64 sz)).far (p := ⟨(w.heap.size + 3), 1, none⟩) neO2 (.slice D4 n3 D4c)).get 0 rfl, (((kO1).far (p := ⟨(w.heap.size + 3), 0, none⟩) neO2 (.int .i64 sz)).far (p := ⟨(w.heap.size + 3), 1, none⟩) neO2 (.slice D4 n3 D4c)).get 1 rfl, (((kF1).far (p := ⟨(w.heap.size + 3), 0, none⟩) neF2 (.int .i64 sz)).far (p := ⟨(w.heap.size + 3), 1, none⟩) neF2 (.slice D4 n3 D4c)).get 0 rfl, (((kF1).far (p := ⟨(w.heap.size + 3), 0, none⟩) neF2 (.int .i64 sz)).far (p := ⟨(w.heap.size + 3), 1, none⟩) neF2 (.slice D4 n3 D4c)).get 1 rfl⟩) (fun _ => ?_)
          clear hK K x2_0 f2_0 x2_1 f2_1 lE2
          refine foldH ?_
          intro r2 hr2
          have bw2 : Below w.heap.size w r2 := by rw [hr2]; exact belC (belC (bw1) _ 0 (by omega) (.int .i64 sz)) _ 1 (by omega) (.slice D4 n3 D4c)
          have kX2 : Blk r2 w.heap.size 31 #[.slice A1 n1 c1, .slice A2 n2 c2] := by rw [hr2]; exact ((kX1).far (p := ⟨(w.heap.size + 3), 0, none⟩) neX2 (.int .i64 sz)).far (p := ⟨(w.heap.size + 3), 1, none⟩) neX2 (.slice D4 n3 D4c)
          have kY2 : Blk r2 (w.heap.size + 1) 34 #[.int .i64 sz, .slice A3 n3 c3] := by rw [hr2]; exact ((kY1).far (p := ⟨(w.heap.size + 3), 0, none⟩) neY2 (.int .i64 sz)).far (p := ⟨(w.heap.size + 3), 1, none⟩) neY2 (.slice D4 n3 D4c)
          have kRS2 : Blk r2 (w.heap.size + 2) 31 #[.slice D2 n1 D2c, .slice D3 n2 D3c] := by rw [hr2]; exact ((kRS1).far (p := ⟨(w.heap.size + 3), 0, none⟩) neRS2 (.int .i64 sz)).far (p := ⟨(w.heap.size + 3), 1, none⟩) neRS2 (.slice D4 n3 D4c)
          have kRF2 : Blk r2 (w.heap.size + 3) 34 #[.int .i64 sz, .slice D4 n3 D4c] := by rw [hr2]; exact ((kRF1.put 0 (.int .i64 sz) #[.int .i64 sz, .slice none 0 0] rfl).put 1 (.slice D4 n3 D4c) #[.int .i64 sz, .slice D4 n3 D4c] rfl)
          have kO2 : Blk r2 gO 31 #[.slice D2 n1 D2c, .slice D3 n2 D3c] := by rw [hr2]; exact ((kO1).far (p := ⟨(w.heap.size + 3), 0, none⟩) neO2 (.int .i64 sz)).far (p := ⟨(w.heap.size + 3), 1, none⟩) neO2 (.slice D4 n3 D4c)
          have kF2 : Blk r2 gF 34 #[.int .i64 sz, .slice D4 n3 D4c] := by rw [hr2]; exact ((kF1).far (p := ⟨(w.heap.size + 3), 0, none⟩) neF2 (.int .i64 sz)).far (p := ⟨(w.heap.size + 3), 1, none⟩) neF2 (.slice D4 n3 D4c)
          have oD22 : r2.ownsRow w.heap.size 4 1 (.slice D2 n1 D2c) n1 (BS S.bs) := by rw [hr2]; exact own_farT (own_farT (oD21) kRF1 (by decide) 0 (.int .i64 sz)) (kRF1.put 0 (.int .i64 sz) #[.int .i64 sz, .slice none 0 0] rfl) (by decide) 1 (.slice D4 n3 D4c)
          have oD32 : r2.ownsRow w.heap.size 9 1 (.slice D3 n2 D3c) n2 (SS S.ds) := by rw [hr2]; exact own_farT (own_farT (oD31) kRF1 (by decide) 0 (.int .i64 sz)) (kRF1.put 0 (.int .i64 sz) #[.int .i64 sz, .slice none 0 0] rfl) (by decide) 1 (.slice D4 n3 D4c)
          have oD42 : r2.ownsRow w.heap.size 76 3 (.slice D4 n3 D4c) n3 (XS F.xs) := by rw [hr2]; exact own_farT (own_farT (oD41) kRF1 (by decide) 0 (.int .i64 sz)) (kRF1.put 0 (.int .i64 sz) #[.int .i64 sz, .slice none 0 0] rfl) (by decide) 1 (.slice D4 n3 D4c)
          clear hr2
          refine wpAnyH_take (i := 4) (oi := ?oi1105) (v := ?v1105) ?hi1105 ?hs1105 ?hf1105 ?hr1105 ?hQ1105 ?hy1105 ?hS1105 ?hrest1105
          case hi1105 => (conv => lhs; simp only [List.getElem?_toArray, List.getElem?_cons_zero, List.getElem?_cons_succ]); try exact rfl
          case hs1105 => kernel_rfl
          case hf1105 => kernel_rfl
          case hr1105 => kernel_rfl
          case hQ1105 => exact fun _ _ _ h => h
          case hS1105 => exact ⟨(kO2).get 0 rfl, (kO2).get 1 rfl, (kF2).get 0 rfl, (kF2).get 1 rfl⟩
          case hy1105 => refine Or.inl ⟨by rfl, ?_⟩; intro w hSw; (try dsimp only at hSw); go_simp; (try with_reducible rfl)
          simp only [Act.put, List.setIfInBounds_toArray, List.set_cons_zero, List.set_cons_succ]
          refine wpAnyH_done (by kernel_rfl) ?_ _
          have r0f := kRS2.get (x := .slice D2 n1 D2c) 0 rfl
          have r1f := kRS2.get (x := .slice D3 n2 D3c) 1 rfl
          have r2f := kRF2.get (x := .int .i64 sz) 0 rfl
          have r3f := kRF2.get (x := .slice D4 n3 D4c) 1 rfl
          have OO1 := Lib.hid (own_eqn oD22 Hl1.out.symm)
          have OO2 := Lib.hid (own_eqn oD32 Hl2.out.symm)
          have OO3 := Lib.hid (own_eqn oD42 Hl3.out.symm)
          have lF1 := kRS2.lt
          have lF2 := kRF2.lt
          have BE := bw2
          clear kX2 kY2 kRS2 kRF2 kO2 kF2 oD22 oD32 oD42
          go_wp2
          obtain ⟨rfl, rfl, rfl⟩ := HPe.out
          exact bodyPost_ret (v := .tuple #[.agg #[.slice D2 n1 D2c, .slice D3 n2 D3c], .agg #[.int .i64 sz, .slice D4 n3 D4c], .bool false]) (by simp [results, Try.results9, go_sem, r0f, r1f, r2f, r3f]) rfl (wrPost_of (Hsz.out) OO1.out OO2.out OO3.out BE)
    by_cases hoff : off < 0
    · have HPe := Lib.hid (show S = S' ∧ F = F' ∧ false = ok by have h := HP.out; unfold writeP at h; rw [if_neg (by omega)] at h; simpa using h)
      have hoffb : decide (off < 0) = true := by simpa using hoff
      go_upto_region 3 with fail
      refine wp_region_held_drew (S := fun w' => w'.cell? ⟨gO, 0, none⟩ = some (.slice D2 n1 D2c) ∧ w'.cell? ⟨gO, 1, none⟩ = some (.slice D3 n2 D3c) ∧ w'.cell? ⟨gF, 0, none⟩ = some (.int .i64 sz) ∧ w'.cell? ⟨gF, 1, none⟩ = some (.slice D4 n3 D4c)) (by kernel_rfl) (by exact ⟨(kO.out).get 0 rfl, (kO.out).get 1 rfl, (kF.out).get 0 rfl, (kF.out).get 1 rfl⟩) (fun hHeld => ?_)
      clear hHeld
      refine foldH ?_
      intro r0 hr0
      have bw0 : Below w.heap.size w r0 := by rw [hr0]; exact (BC).drew
      have kX0 : Blk r0 w.heap.size 31 #[.slice A1 n1 c1, .slice A2 n2 c2] := by rw [hr0]; exact kX.out.drew
      have kY0 : Blk r0 (w.heap.size + 1) 34 #[.int .i64 sz, .slice A3 n3 c3] := by rw [hr0]; exact kY.out.drew
      have kRS0 : Blk r0 (w.heap.size + 2) 31 #[.slice none 0 0, .slice none 0 0] := by rw [hr0]; exact kRS.out.drew
      have kRF0 : Blk r0 (w.heap.size + 3) 34 #[.int .i64 0, .slice none 0 0] := by rw [hr0]; exact kRF.out.drew
      have kO0 : Blk r0 gO 31 #[.slice D2 n1 D2c, .slice D3 n2 D3c] := by rw [hr0]; exact kO.out.drew
      have kF0 : Blk r0 gF 34 #[.int .i64 sz, .slice D4 n3 D4c] := by rw [hr0]; exact kF.out.drew
      have oD20 : r0.ownsRow w.heap.size 4 1 (.slice D2 n1 D2c) n1 (BS S.bs) := by rw [hr0]; exact oD2.out
      have oD30 : r0.ownsRow w.heap.size 9 1 (.slice D3 n2 D3c) n2 (SS S.ds) := by rw [hr0]; exact oD3.out
      have oD40 : r0.ownsRow w.heap.size 76 3 (.slice D4 n3 D4c) n3 (XS F.xs) := by rw [hr0]; exact oD4.out
      clear hr0
      refine wpAnyH_take (i := 0) (oi := ?oi1201) (v := ?v1201) ?hi1201 ?hs1201 ?hf1201 ?hr1201 ?hQ1201 ?hy1201 ?hS1201 ?hrest1201
      case hi1201 => (conv => lhs; simp only [List.getElem?_toArray, List.getElem?_cons_zero]); try exact rfl
      case hs1201 => kernel_rfl
      case hf1201 => kernel_rfl
      case hr1201 => kernel_rfl
      case hQ1201 => exact fun _ _ _ h => h
      case hS1201 => exact ⟨(kO0).get 0 rfl, (kO0).get 1 rfl, (kF0).get 0 rfl, (kF0).get 1 rfl⟩
      case hy1201 => refine Or.inl ⟨by rfl, ?_⟩; intro w hSw; (try dsimp only at hSw); go_simp; (try with_reducible rfl)
      simp only [Act.put, List.setIfInBounds_toArray, List.set_cons_zero, List.set_cons_succ]
      refine wpAnyH_take (i := 1) (oi := ?oi1202) (v := ?v1202) ?hi1202 ?hs1202 ?hf1202 ?hr1202 ?hQ1202 ?hy1202 ?hS1202 ?hrest1202
      case hi1202 => (conv => lhs; simp only [List.getElem?_toArray, List.getElem?_cons_zero, List.getElem?_cons_succ]); try exact rfl
      case hs1202 => kernel_rfl
      case hf1202 => kernel_rfl
      case hr1202 => kernel_rfl
      case hQ1202 => exact fun _ _ _ h => h
      case hS1202 => exact ⟨(kO0).get 0 rfl, (kO0).get 1 rfl, (kF0).get 0 rfl, (kF0).get 1 rfl⟩
      case hy1202 => refine Or.inl ⟨by rfl, ?_⟩; intro w hSw; (try dsimp only at hSw); go_simp; (try with_reducible rfl)
      simp only [Act.put, List.setIfInBounds_toArray, List.set_cons_zero, List.set_cons_succ]
      refine wpAnyH_ready (rs := [2]) (by kernel_rfl) (by simp) ?_
      refine AllReadyH.cons (o := ?oi1203) ?hi1203 (fun K hK => ?br1203) AllReadyH.nil
      case hi1203 => (conv => lhs; simp only [List.getElem?_toArray, List.getElem?_cons_zero, List.getElem?_cons_succ]); try exact rfl
      case br1203 =>
        have x1_0 := kRS0.get (x := .slice none 0 0) 0 rfl
        have f1_0 := kRS0.frozen 0
        have x1_1 := kRS0.get (x := .slice none 0 0) 1 rfl
        have f1_1 := kRS0.frozen 1
        have lE1 := kRS0.lt
        have neX1 : w.heap.size ≠ (w.heap.size + 2) := by have := kRS0.lt; have := kX0.lt; first | exact Blk.ne_ kX0 kRS0 (by decide) | omega
        have neY1 : (w.heap.size + 1) ≠ (w.heap.size + 2) := by have := kRS0.lt; have := kY0.lt; first | exact Blk.ne_ kY0 kRS0 (by decide) | omega
        have neRF1 : (w.heap.size + 3) ≠ (w.heap.size + 2) := by have := kRS0.lt; have := kRF0.lt; first | exact Blk.ne_ kRF0 kRS0 (by decide) | omega
        have neO1 : gO ≠ (w.heap.size + 2) := by have := kRS0.lt; have := kO0.lt; first | exact Blk.ne_ kO0 kRS0 (by decide) | omega
        have neF1 : gF ≠ (w.heap.size + 2) := by have := kRS0.lt; have := kF0.lt; first | exact Blk.ne_ kF0 kRS0 (by decide) | omega
        go_simp
        refine hK.out _ _ (by exact ⟨(((kO0).far (p := ⟨(w.heap.size + 2), 0, none⟩) neO1 (.slice D2 n1 D2c)).far (p := ⟨(w.heap.size + 2), 1, none⟩) neO1 (.slice D3 n2 D3c)).get 0 rfl, (((kO0).far (p := ⟨(w.heap.size + 2), 0, none⟩) neO1 (.slice D2 n1 D2c)).far (p := ⟨(w.heap.size + 2), 1, none⟩) neO1 (.slice D3 n2 D3c)).get 1 rfl, (((kF0).far (p := ⟨(w.heap.size + 2), 0, none⟩) neF1 (.slice D2 n1 D2c)).far (p := ⟨(w.heap.size + 2), 1, none⟩) neF1 (.slice D3 n2 D3c)).get 0 rfl, (((kF0).far (p := ⟨(w.heap.size + 2), 0, none⟩) neF1 (.slice D2 n1 D2c)).far (p := ⟨(w.heap.size + 2), 1, none⟩) neF1 (.slice D3 n2 D3c)).get 1 rfl⟩) (fun _ => ?_)
        clear hK K x1_0 f1_0 x1_1 f1_1 lE1
        refine foldH ?_
        intro r1 hr1
        have bw1 : Below w.heap.size w r1 := by rw [hr1]; exact belC (belC (bw0) _ 0 (by omega) (.slice D2 n1 D2c)) _ 1 (by omega) (.slice D3 n2 D3c)
        have kX1 : Blk r1 w.heap.size 31 #[.slice A1 n1 c1, .slice A2 n2 c2] := by rw [hr1]; exact ((kX0).far (p := ⟨(w.heap.size + 2), 0, none⟩) neX1 (.slice D2 n1 D2c)).far (p := ⟨(w.heap.size + 2), 1, none⟩) neX1 (.slice D3 n2 D3c)
        have kY1 : Blk r1 (w.heap.size + 1) 34 #[.int .i64 sz, .slice A3 n3 c3] := by rw [hr1]; exact ((kY0).far (p := ⟨(w.heap.size + 2), 0, none⟩) neY1 (.slice D2 n1 D2c)).far (p := ⟨(w.heap.size + 2), 1, none⟩) neY1 (.slice D3 n2 D3c)
        have kRS1 : Blk r1 (w.heap.size + 2) 31 #[.slice D2 n1 D2c, .slice D3 n2 D3c] := by rw [hr1]; exact ((kRS0.put 0 (.slice D2 n1 D2c) #[.slice D2 n1 D2c, .slice none 0 0] rfl).put 1 (.slice D3 n2 D3c) #[.slice D2 n1 D2c, .slice D3 n2 D3c] rfl)
        have kRF1 : Blk r1 (w.heap.size + 3) 34 #[.int .i64 0, .slice none 0 0] := by rw [hr1]; exact ((kRF0).far (p := ⟨(w.heap.size + 2), 0, none⟩) neRF1 (.slice D2 n1 D2c)).far (p := ⟨(w.heap.size + 2), 1, none⟩) neRF1 (.slice D3 n2 D3c)
        have kO1 : Blk r1 gO 31 #[.slice D2 n1 D2c, .slice D3 n2 D3c] := by rw [hr1]; exact ((kO0).far (p := ⟨(w.heap.size + 2), 0, none⟩) neO1 (.slice D2 n1 D2c)).far (p := ⟨(w.heap.size + 2), 1, none⟩) neO1 (.slice D3 n2 D3c)
        have kF1 : Blk r1 gF 34 #[.int .i64 sz, .slice D4 n3 D4c] := by rw [hr1]; exact ((kF0).far (p := ⟨(w.heap.size + 2), 0, none⟩) neF1 (.slice D2 n1 D2c)).far (p := ⟨(w.heap.size + 2), 1, none⟩) neF1 (.slice D3 n2 D3c)
        have oD21 : r1.ownsRow w.heap.size 4 1 (.slice D2 n1 D2c) n1 (BS S.bs) := by rw [hr1]; exact own_farT (own_farT (oD20) kRS0 (by decide) 0 (.slice D2 n1 D2c)) (kRS0.put 0 (.slice D2 n1 D2c) #[.slice D2 n1 D2c, .slice none 0 0] rfl) (by decide) 1 (.slice D3 n2 D3c)
        have oD31 : r1.ownsRow w.heap.size 9 1 (.slice D3 n2 D3c) n2 (SS S.ds) := by rw [hr1]; exact own_farT (own_farT (oD30) kRS0 (by decide) 0 (.slice D2 n1 D2c)) (kRS0.put 0 (.slice D2 n1 D2c) #[.slice D2 n1 D2c, .slice none 0 0] rfl) (by decide) 1 (.slice D3 n2 D3c)
        have oD41 : r1.ownsRow w.heap.size 76 3 (.slice D4 n3 D4c) n3 (XS F.xs) := by rw [hr1]; exact own_farT (own_farT (oD40) kRS0 (by decide) 0 (.slice D2 n1 D2c)) (kRS0.put 0 (.slice D2 n1 D2c) #[.slice D2 n1 D2c, .slice none 0 0] rfl) (by decide) 1 (.slice D3 n2 D3c)
        clear hr1
        refine wpAnyH_ready (rs := [3]) (by kernel_rfl) (by simp) ?_
        refine AllReadyH.cons (o := ?oi1204) ?hi1204 (fun K hK => ?br1204) AllReadyH.nil
        case hi1204 => (conv => lhs; simp only [List.getElem?_toArray, List.getElem?_cons_zero, List.getElem?_cons_succ]); try exact rfl
        case br1204 =>
          have x2_0 := kRF1.get (x := .int .i64 0) 0 rfl
          have f2_0 := kRF1.frozen 0
          have x2_1 := kRF1.get (x := .slice none 0 0) 1 rfl
          have f2_1 := kRF1.frozen 1
          have lE2 := kRF1.lt
          have neX2 : w.heap.size ≠ (w.heap.size + 3) := by have := kRF1.lt; have := kX1.lt; first | exact Blk.ne_ kX1 kRF1 (by decide) | omega
          have neY2 : (w.heap.size + 1) ≠ (w.heap.size + 3) := by have := kRF1.lt; have := kY1.lt; first | exact Blk.ne_ kY1 kRF1 (by decide) | omega
          have neRS2 : (w.heap.size + 2) ≠ (w.heap.size + 3) := by have := kRF1.lt; have := kRS1.lt; first | exact Blk.ne_ kRS1 kRF1 (by decide) | omega
          have neO2 : gO ≠ (w.heap.size + 3) := by have := kRF1.lt; have := kO1.lt; first | exact Blk.ne_ kO1 kRF1 (by decide) | omega
          have neF2 : gF ≠ (w.heap.size + 3) := by have := kRF1.lt; have := kF1.lt; first | exact Blk.ne_ kF1 kRF1 (by decide) | omega
          go_simp
          refine hK.out _ _ (by exact ⟨(((kO1).far (p := ⟨(w.heap.size + 3), 0, none⟩) neO2 (.int .i64 sz)).far (p := ⟨(w.heap.size + 3), 1, none⟩) neO2 (.slice D4 n3 D4c)).get 0 rfl, (((kO1).far (p := ⟨(w.heap.size + 3), 0, none⟩) neO2 (.int .i64 sz)).far (p := ⟨(w.heap.size + 3), 1, none⟩) neO2 (.slice D4 n3 D4c)).get 1 rfl, (((kF1).far (p := ⟨(w.heap.size + 3), 0, none⟩) neF2 (.int .i64 sz)).far (p := ⟨(w.heap.size + 3), 1, none⟩) neF2 (.slice D4 n3 D4c)).get 0 rfl, (((kF1).far (p := ⟨(w.heap.size + 3), 0, none⟩) neF2 (.int .i64 sz)).far (p := ⟨(w.heap.size + 3), 1, none⟩) neF2 (.slice D4 n3 D4c)).get 1 rfl⟩) (fun _ => ?_)
          clear hK K x2_0 f2_0 x2_1 f2_1 lE2
          refine foldH ?_
          intro r2 hr2
          have bw2 : Below w.heap.size w r2 := by rw [hr2]; exact belC (belC (bw1) _ 0 (by omega) (.int .i64 sz)) _ 1 (by omega) (.slice D4 n3 D4c)
          have kX2 : Blk r2 w.heap.size 31 #[.slice A1 n1 c1, .slice A2 n2 c2] := by rw [hr2]; exact ((kX1).far (p := ⟨(w.heap.size + 3), 0, none⟩) neX2 (.int .i64 sz)).far (p := ⟨(w.heap.size + 3), 1, none⟩) neX2 (.slice D4 n3 D4c)
          have kY2 : Blk r2 (w.heap.size + 1) 34 #[.int .i64 sz, .slice A3 n3 c3] := by rw [hr2]; exact ((kY1).far (p := ⟨(w.heap.size + 3), 0, none⟩) neY2 (.int .i64 sz)).far (p := ⟨(w.heap.size + 3), 1, none⟩) neY2 (.slice D4 n3 D4c)
          have kRS2 : Blk r2 (w.heap.size + 2) 31 #[.slice D2 n1 D2c, .slice D3 n2 D3c] := by rw [hr2]; exact ((kRS1).far (p := ⟨(w.heap.size + 3), 0, none⟩) neRS2 (.int .i64 sz)).far (p := ⟨(w.heap.size + 3), 1, none⟩) neRS2 (.slice D4 n3 D4c)
          have kRF2 : Blk r2 (w.heap.size + 3) 34 #[.int .i64 sz, .slice D4 n3 D4c] := by rw [hr2]; exact ((kRF1.put 0 (.int .i64 sz) #[.int .i64 sz, .slice none 0 0] rfl).put 1 (.slice D4 n3 D4c) #[.int .i64 sz, .slice D4 n3 D4c] rfl)
          have kO2 : Blk r2 gO 31 #[.slice D2 n1 D2c, .slice D3 n2 D3c] := by rw [hr2]; exact ((kO1).far (p := ⟨(w.heap.size + 3), 0, none⟩) neO2 (.int .i64 sz)).far (p := ⟨(w.heap.size + 3), 1, none⟩) neO2 (.slice D4 n3 D4c)
          have kF2 : Blk r2 gF 34 #[.int .i64 sz, .slice D4 n3 D4c] := by rw [hr2]; exact ((kF1).far (p := ⟨(w.heap.size + 3), 0, none⟩) neF2 (.int .i64 sz)).far (p := ⟨(w.heap.size + 3), 1, none⟩) neF2 (.slice D4 n3 D4c)
          have oD22 : r2.ownsRow w.heap.size 4 1 (.slice D2 n1 D2c) n1 (BS S.bs) := by rw [hr2]; exact own_farT (own_farT (oD21) kRF1 (by decide) 0 (.int .i64 sz)) (kRF1.put 0 (.int .i64 sz) #[.int .i64 sz, .slice none 0 0] rfl) (by decide) 1 (.slice D4 n3 D4c)
          have oD32 : r2.ownsRow w.heap.size 9 1 (.slice D3 n2 D3c) n2 (SS S.ds) := by rw [hr2]; exact own_farT (own_farT (oD31) kRF1 (by decide) 0 (.int .i64 sz)) (kRF1.put 0 (.int .i64 sz) #[.int .i64 sz, .slice none 0 0] rfl) (by decide) 1 (.slice D4 n3 D4c)
          have oD42 : r2.ownsRow w.heap.size 76 3 (.slice D4 n3 D4c) n3 (XS F.xs) := by rw [hr2]; exact own_farT (own_farT (oD41) kRF1 (by decide) 0 (.int .i64 sz)) (kRF1.put 0 (.int .i64 sz) #[.int .i64 sz, .slice none 0 0] rfl) (by decide) 1 (.slice D4 n3 D4c)
          clear hr2
          refine wpAnyH_take (i := 4) (oi := ?oi1205) (v := ?v1205) ?hi1205 ?hs1205 ?hf1205 ?hr1205 ?hQ1205 ?hy1205 ?hS1205 ?hrest1205
          case hi1205 => (conv => lhs; simp only [List.getElem?_toArray, List.getElem?_cons_zero, List.getElem?_cons_succ]); try exact rfl
          case hs1205 => kernel_rfl
          case hf1205 => kernel_rfl
          case hr1205 => kernel_rfl
          case hQ1205 => exact fun _ _ _ h => h
          case hS1205 => exact ⟨(kO2).get 0 rfl, (kO2).get 1 rfl, (kF2).get 0 rfl, (kF2).get 1 rfl⟩
          case hy1205 => refine Or.inl ⟨by rfl, ?_⟩; intro w hSw; (try dsimp only at hSw); go_simp; (try with_reducible rfl)
          simp only [Act.put, List.setIfInBounds_toArray, List.set_cons_zero, List.set_cons_succ]
          refine wpAnyH_done (by kernel_rfl) ?_ _
          have r0f := kRS2.get (x := .slice D2 n1 D2c) 0 rfl
          have r1f := kRS2.get (x := .slice D3 n2 D3c) 1 rfl
          have r2f := kRF2.get (x := .int .i64 sz) 0 rfl
          have r3f := kRF2.get (x := .slice D4 n3 D4c) 1 rfl
          have OO1 := Lib.hid (own_eqn oD22 Hl1.out.symm)
          have OO2 := Lib.hid (own_eqn oD32 Hl2.out.symm)
          have OO3 := Lib.hid (own_eqn oD42 Hl3.out.symm)
          have lF1 := kRS2.lt
          have lF2 := kRF2.lt
          have BE := bw2
          clear kX2 kY2 kRS2 kRF2 kO2 kF2 oD22 oD32 oD42
          go_wp2
          obtain ⟨rfl, rfl, rfl⟩ := HPe.out
          exact bodyPost_ret (v := .tuple #[.agg #[.slice D2 n1 D2c, .slice D3 n2 D3c], .agg #[.int .i64 sz, .slice D4 n3 D4c], .bool false]) (by simp [results, Try.results9, go_sem, r0f, r1f, r2f, r3f]) rfl (wrPost_of (Hsz.out) OO1.out OO2.out OO3.out BE)
    have hoffb : decide (off < 0) = false := by simpa using hoff
    by_cases hof2 : 48 - (data.size : Int) < off
    · have HPe := Lib.hid (show S = S' ∧ F = F' ∧ false = ok by have h := HP.out; unfold writeP at h; rw [if_neg (by omega)] at h; simpa using h)
      have hof2b : decide (48 - (data.size : Int) < off) = true := by simpa using hof2
      go_upto_region 3 with fail
      refine wp_region_held_drew (S := fun w' => w'.cell? ⟨gO, 0, none⟩ = some (.slice D2 n1 D2c) ∧ w'.cell? ⟨gO, 1, none⟩ = some (.slice D3 n2 D3c) ∧ w'.cell? ⟨gF, 0, none⟩ = some (.int .i64 sz) ∧ w'.cell? ⟨gF, 1, none⟩ = some (.slice D4 n3 D4c)) (by kernel_rfl) (by exact ⟨(kO.out).get 0 rfl, (kO.out).get 1 rfl, (kF.out).get 0 rfl, (kF.out).get 1 rfl⟩) (fun hHeld => ?_)
      clear hHeld
      refine foldH ?_
      intro r0 hr0
      have bw0 : Below w.heap.size w r0 := by rw [hr0]; exact (BC).drew
      have kX0 : Blk r0 w.heap.size 31 #[.slice A1 n1 c1, .slice A2 n2 c2] := by rw [hr0]; exact kX.out.drew
      have kY0 : Blk r0 (w.heap.size + 1) 34 #[.int .i64 sz, .slice A3 n3 c3] := by rw [hr0]; exact kY.out.drew
      have kRS0 : Blk r0 (w.heap.size + 2) 31 #[.slice none 0 0, .slice none 0 0] := by rw [hr0]; exact kRS.out.drew
      have kRF0 : Blk r0 (w.heap.size + 3) 34 #[.int .i64 0, .slice none 0 0] := by rw [hr0]; exact kRF.out.drew
      have kO0 : Blk r0 gO 31 #[.slice D2 n1 D2c, .slice D3 n2 D3c] := by rw [hr0]; exact kO.out.drew
      have kF0 : Blk r0 gF 34 #[.int .i64 sz, .slice D4 n3 D4c] := by rw [hr0]; exact kF.out.drew
      have oD20 : r0.ownsRow w.heap.size 4 1 (.slice D2 n1 D2c) n1 (BS S.bs) := by rw [hr0]; exact oD2.out
      have oD30 : r0.ownsRow w.heap.size 9 1 (.slice D3 n2 D3c) n2 (SS S.ds) := by rw [hr0]; exact oD3.out
      have oD40 : r0.ownsRow w.heap.size 76 3 (.slice D4 n3 D4c) n3 (XS F.xs) := by rw [hr0]; exact oD4.out
      clear hr0
      refine wpAnyH_take (i := 0) (oi := ?oi1301) (v := ?v1301) ?hi1301 ?hs1301 ?hf1301 ?hr1301 ?hQ1301 ?hy1301 ?hS1301 ?hrest1301
      case hi1301 => (conv => lhs; simp only [List.getElem?_toArray, List.getElem?_cons_zero]); try exact rfl
      case hs1301 => kernel_rfl
      case hf1301 => kernel_rfl
      case hr1301 => kernel_rfl
      case hQ1301 => exact fun _ _ _ h => h
      case hS1301 => exact ⟨(kO0).get 0 rfl, (kO0).get 1 rfl, (kF0).get 0 rfl, (kF0).get 1 rfl⟩
      case hy1301 => refine Or.inl ⟨by rfl, ?_⟩; intro w hSw; (try dsimp only at hSw); go_simp; (try with_reducible rfl)
      simp only [Act.put, List.setIfInBounds_toArray, List.set_cons_zero, List.set_cons_succ]
      refine wpAnyH_take (i := 1) (oi := ?oi1302) (v := ?v1302) ?hi1302 ?hs1302 ?hf1302 ?hr1302 ?hQ1302 ?hy1302 ?hS1302 ?hrest1302
      case hi1302 => (conv => lhs; simp only [List.getElem?_toArray, List.getElem?_cons_zero, List.getElem?_cons_succ]); try exact rfl
      case hs1302 => kernel_rfl
      case hf1302 => kernel_rfl
      case hr1302 => kernel_rfl
      case hQ1302 => exact fun _ _ _ h => h
      case hS1302 => exact ⟨(kO0).get 0 rfl, (kO0).get 1 rfl, (kF0).get 0 rfl, (kF0).get 1 rfl⟩
      case hy1302 => refine Or.inl ⟨by rfl, ?_⟩; intro w hSw; (try dsimp only at hSw); go_simp; (try with_reducible rfl)
      simp only [Act.put, List.setIfInBounds_toArray, List.set_cons_zero, List.set_cons_succ]
      refine wpAnyH_ready (rs := [2]) (by kernel_rfl) (by simp) ?_
      refine AllReadyH.cons (o := ?oi1303) ?hi1303 (fun K hK => ?br1303) AllReadyH.nil
      case hi1303 => (conv => lhs; simp only [List.getElem?_toArray, List.getElem?_cons_zero, List.getElem?_cons_succ]); try exact rfl
      case br1303 =>
        have x1_0 := kRS0.get (x := .slice none 0 0) 0 rfl
        have f1_0 := kRS0.frozen 0
        have x1_1 := kRS0.get (x := .slice none 0 0) 1 rfl
        have f1_1 := kRS0.frozen 1
        have lE1 := kRS0.lt
        have neX1 : w.heap.size ≠ (w.heap.size + 2) := by have := kRS0.lt; have := kX0.lt; first | exact Blk.ne_ kX0 kRS0 (by decide) | omega
        have neY1 : (w.heap.size + 1) ≠ (w.heap.size + 2) := by have := kRS0.lt; have := kY0.lt; first | exact Blk.ne_ kY0 kRS0 (by decide) | omega
        have neRF1 : (w.heap.size + 3) ≠ (w.heap.size + 2) := by have := kRS0.lt; have := kRF0.lt; first | exact Blk.ne_ kRF0 kRS0 (by decide) | omega
        have neO1 : gO ≠ (w.heap.size + 2) := by have := kRS0.lt; have := kO0.lt; first | exact Blk.ne_ kO0 kRS0 (by decide) | omega
        have neF1 : gF ≠ (w.heap.size + 2) := by have := kRS0.lt; have := kF0.lt; first | exact Blk.ne_ kF0 kRS0 (by decide) | omega
        go_simp
        refine hK.out _ _ (by exact ⟨(((kO0).far (p := ⟨(w.heap.size + 2), 0, none⟩) neO1 (.slice D2 n1 D2c)).far (p := ⟨(w.heap.size + 2), 1, none⟩) neO1 (.slice D3 n2 D3c)).get 0 rfl, (((kO0).far (p := ⟨(w.heap.size + 2), 0, none⟩) neO1 (.slice D2 n1 D2c)).far (p := ⟨(w.heap.size + 2), 1, none⟩) neO1 (.slice D3 n2 D3c)).get 1 rfl, (((kF0).far (p := ⟨(w.heap.size + 2), 0, none⟩) neF1 (.slice D2 n1 D2c)).far (p := ⟨(w.heap.size + 2), 1, none⟩) neF1 (.slice D3 n2 D3c)).get 0 rfl, (((kF0).far (p := ⟨(w.heap.size + 2), 0, none⟩) neF1 (.slice D2 n1 D2c)).far (p := ⟨(w.heap.size + 2), 1, none⟩) neF1 (.slice D3 n2 D3c)).get 1 rfl⟩) (fun _ => ?_)
        clear hK K x1_0 f1_0 x1_1 f1_1 lE1
        refine foldH ?_
        intro r1 hr1
        have bw1 : Below w.heap.size w r1 := by rw [hr1]; exact belC (belC (bw0) _ 0 (by omega) (.slice D2 n1 D2c)) _ 1 (by omega) (.slice D3 n2 D3c)
        have kX1 : Blk r1 w.heap.size 31 #[.slice A1 n1 c1, .slice A2 n2 c2] := by rw [hr1]; exact ((kX0).far (p := ⟨(w.heap.size + 2), 0, none⟩) neX1 (.slice D2 n1 D2c)).far (p := ⟨(w.heap.size + 2), 1, none⟩) neX1 (.slice D3 n2 D3c)
        have kY1 : Blk r1 (w.heap.size + 1) 34 #[.int .i64 sz, .slice A3 n3 c3] := by rw [hr1]; exact ((kY0).far (p := ⟨(w.heap.size + 2), 0, none⟩) neY1 (.slice D2 n1 D2c)).far (p := ⟨(w.heap.size + 2), 1, none⟩) neY1 (.slice D3 n2 D3c)
        have kRS1 : Blk r1 (w.heap.size + 2) 31 #[.slice D2 n1 D2c, .slice D3 n2 D3c] := by rw [hr1]; exact ((kRS0.put 0 (.slice D2 n1 D2c) #[.slice D2 n1 D2c, .slice none 0 0] rfl).put 1 (.slice D3 n2 D3c) #[.slice D2 n1 D2c, .slice D3 n2 D3c] rfl)
        have kRF1 : Blk r1 (w.heap.size + 3) 34 #[.int .i64 0, .slice none 0 0] := by rw [hr1]; exact ((kRF0).far (p := ⟨(w.heap.size + 2), 0, none⟩) neRF1 (.slice D2 n1 D2c)).far (p := ⟨(w.heap.size + 2), 1, none⟩) neRF1 (.slice D3 n2 D3c)
        have kO1 : Blk r1 gO 31 #[.slice D2 n1 D2c, .slice D3 n2 D3c] := by rw [hr1]; exact ((kO0).far (p := ⟨(w.heap.size + 2), 0, none⟩) neO1 (.slice D2 n1 D2c)).far (p := ⟨(w.heap.size + 2), 1, none⟩) neO1 (.slice D3 n2 D3c)
        have kF1 : Blk r1 gF 34 #[.int .i64 sz, .slice D4 n3 D4c] := by rw [hr1]; exact ((kF0).far (p := ⟨(w.heap.size + 2), 0, none⟩) neF1 (.slice D2 n1 D2c)).far (p := ⟨(w.heap.size + 2), 1, none⟩) neF1 (.slice D3 n2 D3c)
        have oD21 : r1.ownsRow w.heap.size 4 1 (.slice D2 n1 D2c) n1 (BS S.bs) := by rw [hr1]; exact own_farT (own_farT (oD20) kRS0 (by decide) 0 (.slice D2 n1 D2c)) (kRS0.put 0 (.slice D2 n1 D2c) #[.slice D2 n1 D2c, .slice none 0 0] rfl) (by decide) 1 (.slice D3 n2 D3c)
        have oD31 : r1.ownsRow w.heap.size 9 1 (.slice D3 n2 D3c) n2 (SS S.ds) := by rw [hr1]; exact own_farT (own_farT (oD30) kRS0 (by decide) 0 (.slice D2 n1 D2c)) (kRS0.put 0 (.slice D2 n1 D2c) #[.slice D2 n1 D2c, .slice none 0 0] rfl) (by decide) 1 (.slice D3 n2 D3c)
        have oD41 : r1.ownsRow w.heap.size 76 3 (.slice D4 n3 D4c) n3 (XS F.xs) := by rw [hr1]; exact own_farT (own_farT (oD40) kRS0 (by decide) 0 (.slice D2 n1 D2c)) (kRS0.put 0 (.slice D2 n1 D2c) #[.slice D2 n1 D2c, .slice none 0 0] rfl) (by decide) 1 (.slice D3 n2 D3c)
        clear hr1
        refine wpAnyH_ready (rs := [3]) (by kernel_rfl) (by simp) ?_
        refine AllReadyH.cons (o := ?oi1304) ?hi1304 (fun K hK => ?br1304) AllReadyH.nil
        case hi1304 => (conv => lhs; simp only [List.getElem?_toArray, List.getElem?_cons_zero, List.getElem?_cons_succ]); try exact rfl
        case br1304 =>
          have x2_0 := kRF1.get (x := .int .i64 0) 0 rfl
          have f2_0 := kRF1.frozen 0
          have x2_1 := kRF1.get (x := .slice none 0 0) 1 rfl
          have f2_1 := kRF1.frozen 1
          have lE2 := kRF1.lt
          have neX2 : w.heap.size ≠ (w.heap.size + 3) := by have := kRF1.lt; have := kX1.lt; first | exact Blk.ne_ kX1 kRF1 (by decide) | omega
          have neY2 : (w.heap.size + 1) ≠ (w.heap.size + 3) := by have := kRF1.lt; have := kY1.lt; first | exact Blk.ne_ kY1 kRF1 (by decide) | omega
          have neRS2 : (w.heap.size + 2) ≠ (w.heap.size + 3) := by have := kRF1.lt; have := kRS1.lt; first | exact Blk.ne_ kRS1 kRF1 (by decide) | omega
          have neO2 : gO ≠ (w.heap.size + 3) := by have := kRF1.lt; have := kO1.lt; first | exact Blk.ne_ kO1 kRF1 (by decide) | omega
          have neF2 : gF ≠ (w.heap.size + 3) := by have := kRF1.lt; have := kF1.lt; first | exact Blk.ne_ kF1 kRF1 (by decide) | omega
          go_simp
          refine hK.out _ _ (by exact ⟨(((kO1).far (p := ⟨(w.heap.size + 3), 0, none⟩) neO2 (.int .i64 sz)).far (p := ⟨(w.heap.size + 3), 1, none⟩) neO2 (.slice D4 n3 D4c)).get 0 rfl, (((kO1).far (p := ⟨(w.heap.size + 3), 0, none⟩) neO2 (.int .i64 sz)).far (p := ⟨(w.heap.size + 3), 1, none⟩) neO2 (.slice D4 n3 D4c)).get 1 rfl, (((kF1).far (p := ⟨(w.heap.size + 3), 0, none⟩) neF2 (.int .i64 sz)).far (p := ⟨(w.heap.size + 3), 1, none⟩) neF2 (.slice D4 n3 D4c)).get 0 rfl, (((kF1).far (p := ⟨(w.heap.size + 3), 0, none⟩) neF2 (.int .i64 sz)).far (p := ⟨(w.heap.size + 3), 1, none⟩) neF2 (.slice D4 n3 D4c)).get 1 rfl⟩) (fun _ => ?_)
          clear hK K x2_0 f2_0 x2_1 f2_1 lE2
          refine foldH ?_
          intro r2 hr2
          have bw2 : Below w.heap.size w r2 := by rw [hr2]; exact belC (belC (bw1) _ 0 (by omega) (.int .i64 sz)) _ 1 (by omega) (.slice D4 n3 D4c)
          have kX2 : Blk r2 w.heap.size 31 #[.slice A1 n1 c1, .slice A2 n2 c2] := by rw [hr2]; exact ((kX1).far (p := ⟨(w.heap.size + 3), 0, none⟩) neX2 (.int .i64 sz)).far (p := ⟨(w.heap.size + 3), 1, none⟩) neX2 (.slice D4 n3 D4c)
          have kY2 : Blk r2 (w.heap.size + 1) 34 #[.int .i64 sz, .slice A3 n3 c3] := by rw [hr2]; exact ((kY1).far (p := ⟨(w.heap.size + 3), 0, none⟩) neY2 (.int .i64 sz)).far (p := ⟨(w.heap.size + 3), 1, none⟩) neY2 (.slice D4 n3 D4c)
          have kRS2 : Blk r2 (w.heap.size + 2) 31 #[.slice D2 n1 D2c, .slice D3 n2 D3c] := by rw [hr2]; exact ((kRS1).far (p := ⟨(w.heap.size + 3), 0, none⟩) neRS2 (.int .i64 sz)).far (p := ⟨(w.heap.size + 3), 1, none⟩) neRS2 (.slice D4 n3 D4c)
          have kRF2 : Blk r2 (w.heap.size + 3) 34 #[.int .i64 sz, .slice D4 n3 D4c] := by rw [hr2]; exact ((kRF1.put 0 (.int .i64 sz) #[.int .i64 sz, .slice none 0 0] rfl).put 1 (.slice D4 n3 D4c) #[.int .i64 sz, .slice D4 n3 D4c] rfl)
          have kO2 : Blk r2 gO 31 #[.slice D2 n1 D2c, .slice D3 n2 D3c] := by rw [hr2]; exact ((kO1).far (p := ⟨(w.heap.size + 3), 0, none⟩) neO2 (.int .i64 sz)).far (p := ⟨(w.heap.size + 3), 1, none⟩) neO2 (.slice D4 n3 D4c)
          have kF2 : Blk r2 gF 34 #[.int .i64 sz, .slice D4 n3 D4c] := by rw [hr2]; exact ((kF1).far (p := ⟨(w.heap.size + 3), 0, none⟩) neF2 (.int .i64 sz)).far (p := ⟨(w.heap.size + 3), 1, none⟩) neF2 (.slice D4 n3 D4c)
          have oD22 : r2.ownsRow w.heap.size 4 1 (.slice D2 n1 D2c) n1 (BS S.bs) := by rw [hr2]; exact own_farT (own_farT (oD21) kRF1 (by decide) 0 (.int .i64 sz)) (kRF1.put 0 (.int .i64 sz) #[.int .i64 sz, .slice none 0 0] rfl) (by decide) 1 (.slice D4 n3 D4c)
          have oD32 : r2.ownsRow w.heap.size 9 1 (.slice D3 n2 D3c) n2 (SS S.ds) := by rw [hr2]; exact own_farT (own_farT (oD31) kRF1 (by decide) 0 (.int .i64 sz)) (kRF1.put 0 (.int .i64 sz) #[.int .i64 sz, .slice none 0 0] rfl) (by decide) 1 (.slice D4 n3 D4c)
          have oD42 : r2.ownsRow w.heap.size 76 3 (.slice D4 n3 D4c) n3 (XS F.xs) := by rw [hr2]; exact own_farT (own_farT (oD41) kRF1 (by decide) 0 (.int .i64 sz)) (kRF1.put 0 (.int .i64 sz) #[.int .i64 sz, .slice none 0 0] rfl) (by decide) 1 (.slice D4 n3 D4c)
          clear hr2
          refine wpAnyH_take (i := 4) (oi := ?oi1305) (v := ?v1305) ?hi1305 ?hs1305 ?hf1305 ?hr1305 ?hQ1305 ?hy1305 ?hS1305 ?hrest1305
          case hi1305 => (conv => lhs; simp only [List.getElem?_toArray, List.getElem?_cons_zero, List.getElem?_cons_succ]); try exact rfl
          case hs1305 => kernel_rfl
          case hf1305 => kernel_rfl
          case hr1305 => kernel_rfl
          case hQ1305 => exact fun _ _ _ h => h
          case hS1305 => exact ⟨(kO2).get 0 rfl, (kO2).get 1 rfl, (kF2).get 0 rfl, (kF2).get 1 rfl⟩
          case hy1305 => refine Or.inl ⟨by rfl, ?_⟩; intro w hSw; (try dsimp only at hSw); go_simp; (try with_reducible rfl)
          simp only [Act.put, List.setIfInBounds_toArray, List.set_cons_zero, List.set_cons_succ]
          refine wpAnyH_done (by kernel_rfl) ?_ _
          have r0f := kRS2.get (x := .slice D2 n1 D2c) 0 rfl
          have r1f := kRS2.get (x := .slice D3 n2 D3c) 1 rfl
          have r2f := kRF2.get (x := .int .i64 sz) 0 rfl
          have r3f := kRF2.get (x := .slice D4 n3 D4c) 1 rfl
          have OO1 := Lib.hid (own_eqn oD22 Hl1.out.symm)
          have OO2 := Lib.hid (own_eqn oD32 Hl2.out.symm)
          have OO3 := Lib.hid (own_eqn oD42 Hl3.out.symm)
          have lF1 := kRS2.lt
          have lF2 := kRF2.lt
          have BE := bw2
          clear kX2 kY2 kRS2 kRF2 kO2 kF2 oD22 oD32 oD42
          go_wp2
          obtain ⟨rfl, rfl, rfl⟩ := HPe.out
          exact bodyPost_ret (v := .tuple #[.agg #[.slice D2 n1 D2c, .slice D3 n2 D3c], .agg #[.int .i64 sz, .slice D4 n3 D4c], .bool false]) (by simp [results, Try.results9, go_sem, r0f, r1f, r2f, r3f]) rfl (wrPost_of (Hsz.out) OO1.out OO2.out OO3.out BE)
    have hof2b : decide (48 - (data.size : Int) < off) = false := by simpa using hof2
    by_cases hem : data.size = 0
    · have HPe := Lib.hid (show S = S' ∧ F = F' ∧ true = ok by have h := HP.out; unfold writeP at h; rw [if_pos ⟨hok, by omega, by omega⟩, if_pos hem] at h; simpa using h)
      obtain ⟨em1, em2, em3⟩ := empty_tests hem
      go_upto_region 5 with fail
      refine wp_region_held_drew (S := fun w' => w'.cell? ⟨gO, 0, none⟩ = some (.slice D2 n1 D2c) ∧ w'.cell? ⟨gO, 1, none⟩ = some (.slice D3 n2 D3c) ∧ w'.cell? ⟨gF, 0, none⟩ = some (.int .i64 sz) ∧ w'.cell? ⟨gF, 1, none⟩ = some (.slice D4 n3 D4c)) (by kernel_rfl) (by exact ⟨(kO.out).get 0 rfl, (kO.out).get 1 rfl, (kF.out).get 0 rfl, (kF.out).get 1 rfl⟩) (fun hHeld => ?_)
      clear hHeld
      refine foldH ?_
      intro r0 hr0
      have bw0 : Below w.heap.size w r0 := by rw [hr0]; exact (BC).drew
      have kX0 : Blk r0 w.heap.size 31 #[.slice A1 n1 c1, .slice A2 n2 c2] := by rw [hr0]; exact kX.out.drew
      have kY0 : Blk r0 (w.heap.size + 1) 34 #[.int .i64 sz, .slice A3 n3 c3] := by rw [hr0]; exact kY.out.drew
      have kRS0 : Blk r0 (w.heap.size + 2) 31 #[.slice none 0 0, .slice none 0 0] := by rw [hr0]; exact kRS.out.drew
      have kRF0 : Blk r0 (w.heap.size + 3) 34 #[.int .i64 0, .slice none 0 0] := by rw [hr0]; exact kRF.out.drew
      have kO0 : Blk r0 gO 31 #[.slice D2 n1 D2c, .slice D3 n2 D3c] := by rw [hr0]; exact kO.out.drew
      have kF0 : Blk r0 gF 34 #[.int .i64 sz, .slice D4 n3 D4c] := by rw [hr0]; exact kF.out.drew
      have oD20 : r0.ownsRow w.heap.size 4 1 (.slice D2 n1 D2c) n1 (BS S.bs) := by rw [hr0]; exact oD2.out
      have oD30 : r0.ownsRow w.heap.size 9 1 (.slice D3 n2 D3c) n2 (SS S.ds) := by rw [hr0]; exact oD3.out
      have oD40 : r0.ownsRow w.heap.size 76 3 (.slice D4 n3 D4c) n3 (XS F.xs) := by rw [hr0]; exact oD4.out
      clear hr0
      refine wpAnyH_take (i := 0) (oi := ?oi1401) (v := ?v1401) ?hi1401 ?hs1401 ?hf1401 ?hr1401 ?hQ1401 ?hy1401 ?hS1401 ?hrest1401
      case hi1401 => (conv => lhs; simp only [List.getElem?_toArray, List.getElem?_cons_zero]); try exact rfl
      case hs1401 => kernel_rfl
      case hf1401 => kernel_rfl
      case hr1401 => kernel_rfl
      case hQ1401 => exact fun _ _ _ h => h
      case hS1401 => exact ⟨(kO0).get 0 rfl, (kO0).get 1 rfl, (kF0).get 0 rfl, (kF0).get 1 rfl⟩
      case hy1401 => refine Or.inl ⟨by rfl, ?_⟩; intro w hSw; (try dsimp only at hSw); go_simp; (try with_reducible rfl)
      simp only [Act.put, List.setIfInBounds_toArray, List.set_cons_zero, List.set_cons_succ]
      refine wpAnyH_take (i := 1) (oi := ?oi1402) (v := ?v1402) ?hi1402 ?hs1402 ?hf1402 ?hr1402 ?hQ1402 ?hy1402 ?hS1402 ?hrest1402
      case hi1402 => (conv => lhs; simp only [List.getElem?_toArray, List.getElem?_cons_zero, List.getElem?_cons_succ]); try exact rfl
      case hs1402 => kernel_rfl
      case hf1402 => kernel_rfl
      case hr1402 => kernel_rfl
      case hQ1402 => exact fun _ _ _ h => h
      case hS1402 => exact ⟨(kO0).get 0 rfl, (kO0).get 1 rfl, (kF0).get 0 rfl, (kF0).get 1 rfl⟩
      case hy1402 => refine Or.inl ⟨by rfl, ?_⟩; intro w hSw; (try dsimp only at hSw); go_simp; (try with_reducible rfl)
      simp only [Act.put, List.setIfInBounds_toArray, List.set_cons_zero, List.set_cons_succ]
      refine wpAnyH_ready (rs := [2]) (by kernel_rfl) (by simp) ?_
      refine AllReadyH.cons (o := ?oi1403) ?hi1403 (fun K hK => ?br1403) AllReadyH.nil
      case hi1403 => (conv => lhs; simp only [List.getElem?_toArray, List.getElem?_cons_zero, List.getElem?_cons_succ]); try exact rfl
      case br1403 =>
        have x1_0 := kRS0.get (x := .slice none 0 0) 0 rfl
        have f1_0 := kRS0.frozen 0
        have x1_1 := kRS0.get (x := .slice none 0 0) 1 rfl
        have f1_1 := kRS0.frozen 1
        have lE1 := kRS0.lt
        have neX1 : w.heap.size ≠ (w.heap.size + 2) := by have := kRS0.lt; have := kX0.lt; first | exact Blk.ne_ kX0 kRS0 (by decide) | omega
        have neY1 : (w.heap.size + 1) ≠ (w.heap.size + 2) := by have := kRS0.lt; have := kY0.lt; first | exact Blk.ne_ kY0 kRS0 (by decide) | omega
        have neRF1 : (w.heap.size + 3) ≠ (w.heap.size + 2) := by have := kRS0.lt; have := kRF0.lt; first | exact Blk.ne_ kRF0 kRS0 (by decide) | omega
        have neO1 : gO ≠ (w.heap.size + 2) := by have := kRS0.lt; have := kO0.lt; first | exact Blk.ne_ kO0 kRS0 (by decide) | omega
        have neF1 : gF ≠ (w.heap.size + 2) := by have := kRS0.lt; have := kF0.lt; first | exact Blk.ne_ kF0 kRS0 (by decide) | omega
        go_simp
        refine hK.out _ _ (by exact ⟨(((kO0).far (p := ⟨(w.heap.size + 2), 0, none⟩) neO1 (.slice D2 n1 D2c)).far (p := ⟨(w.heap.size + 2), 1, none⟩) neO1 (.slice D3 n2 D3c)).get 0 rfl, (((kO0).far (p := ⟨(w.heap.size + 2), 0, none⟩) neO1 (.slice D2 n1 D2c)).far (p := ⟨(w.heap.size + 2), 1, none⟩) neO1 (.slice D3 n2 D3c)).get 1 rfl, (((kF0).far (p := ⟨(w.heap.size + 2), 0, none⟩) neF1 (.slice D2 n1 D2c)).far (p := ⟨(w.heap.size + 2), 1, none⟩) neF1 (.slice D3 n2 D3c)).get 0 rfl, (((kF0).far (p := ⟨(w.heap.size + 2), 0, none⟩) neF1 (.slice D2 n1 D2c)).far (p := ⟨(w.heap.size + 2), 1, none⟩) neF1 (.slice D3 n2 D3c)).get 1 rfl⟩) (fun _ => ?_)
        clear hK K x1_0 f1_0 x1_1 f1_1 lE1
        refine foldH ?_
        intro r1 hr1
        have bw1 : Below w.heap.size w r1 := by rw [hr1]; exact belC (belC (bw0) _ 0 (by omega) (.slice D2 n1 D2c)) _ 1 (by omega) (.slice D3 n2 D3c)
        have kX1 : Blk r1 w.heap.size 31 #[.slice A1 n1 c1, .slice A2 n2 c2] := by rw [hr1]; exact ((kX0).far (p := ⟨(w.heap.size + 2), 0, none⟩) neX1 (.slice D2 n1 D2c)).far (p := ⟨(w.heap.size + 2), 1, none⟩) neX1 (.slice D3 n2 D3c)
        have kY1 : Blk r1 (w.heap.size + 1) 34 #[.int .i64 sz, .slice A3 n3 c3] := by rw [hr1]; exact ((kY0).far (p := ⟨(w.heap.size + 2), 0, none⟩) neY1 (.slice D2 n1 D2c)).far (p := ⟨(w.heap.size + 2), 1, none⟩) neY1 (.slice D3 n2 D3c)
        have kRS1 : Blk r1 (w.heap.size + 2) 31 #[.slice D2 n1 D2c, .slice D3 n2 D3c] := by rw [hr1]; exact ((kRS0.put 0 (.slice D2 n1 D2c) #[.slice D2 n1 D2c, .slice none 0 0] rfl).put 1 (.slice D3 n2 D3c) #[.slice D2 n1 D2c, .slice D3 n2 D3c] rfl)
        have kRF1 : Blk r1 (w.heap.size + 3) 34 #[.int .i64 0, .slice none 0 0] := by rw [hr1]; exact ((kRF0).far (p := ⟨(w.heap.size + 2), 0, none⟩) neRF1 (.slice D2 n1 D2c)).far (p := ⟨(w.heap.size + 2), 1, none⟩) neRF1 (.slice D3 n2 D3c)
        have kO1 : Blk r1 gO 31 #[.slice D2 n1 D2c, .slice D3 n2 D3c] := by rw [hr1]; exact ((kO0).far (p := ⟨(w.heap.size + 2), 0, none⟩) neO1 (.slice D2 n1 D2c)).far (p := ⟨(w.heap.size + 2), 1, none⟩) neO1 (.slice D3 n2 D3c)
        have kF1 : Blk r1 gF 34 #[.int .i64 sz, .slice D4 n3 D4c] := by rw [hr1]; exact ((kF0).far (p := ⟨(w.heap.size + 2), 0, none⟩) neF1 (.slice D2 n1 D2c)).far (p := ⟨(w.heap.size + 2), 1, none⟩) neF1 (.slice D3 n2 D3c)
        have oD21 : r1.ownsRow w.heap.size 4 1 (.slice D2 n1 D2c) n1 (BS S.bs) := by rw [hr1]; exact own_farT (own_farT (oD20) kRS0 (by decide) 0 (.slice D2 n1 D2c)) (kRS0.put 0 (.slice D2 n1 D2c) #[.slice D2 n1 D2c, .slice none 0 0] rfl) (by decide) 1 (.slice D3 n2 D3c)
        have oD31 : r1.ownsRow w.heap.size 9 1 (.slice D3 n2 D3c) n2 (SS S.ds) := by rw [hr1]; exact own_farT (own_farT (oD30) kRS0 (by decide) 0 (.slice D2 n1 D2c)) (kRS0.put 0 (.slice D2 n1 D2c) #[.slice D2 n1 D2c, .slice none 0 0] rfl) (by decide) 1 (.slice D3 n2 D3c)
        have oD41 : r1.ownsRow w.heap.size 76 3 (.slice D4 n3 D4c) n3 (XS F.xs) := by rw [hr1]; exact own_farT (own_farT (oD40) kRS0 (by decide) 0 (.slice D2 n1 D2c)) (kRS0.put 0 (.slice D2 n1 D2c) #[.slice D2 n1 D2c, .slice none 0 0] rfl) (by decide) 1 (.slice D3 n2 D3c)
        clear hr1
        refine wpAnyH_ready (rs := [3]) (by kernel_rfl) (by simp) ?_
        refine AllReadyH.cons (o := ?oi1404) ?hi1404 (fun K hK => ?br1404) AllReadyH.nil
        case hi1404 => (conv => lhs; simp only [List.getElem?_toArray, List.getElem?_cons_zero, List.getElem?_cons_succ]); try exact rfl
        case br1404 =>
          have x2_0 := kRF1.get (x := .int .i64 0) 0 rfl
          have f2_0 := kRF1.frozen 0
          have x2_1 := kRF1.get (x := .slice none 0 0) 1 rfl
          have f2_1 := kRF1.frozen 1
          have lE2 := kRF1.lt
          have neX2 : w.heap.size ≠ (w.heap.size + 3) := by have := kRF1.lt; have := kX1.lt; first | exact Blk.ne_ kX1 kRF1 (by decide) | omega
          have neY2 : (w.heap.size + 1) ≠ (w.heap.size + 3) := by have := kRF1.lt; have := kY1.lt; first | exact Blk.ne_ kY1 kRF1 (by decide) | omega
          have neRS2 : (w.heap.size + 2) ≠ (w.heap.size + 3) := by have := kRF1.lt; have := kRS1.lt; first | exact Blk.ne_ kRS1 kRF1 (by decide) | omega
          have neO2 : gO ≠ (w.heap.size + 3) := by have := kRF1.lt; have := kO1.lt; first | exact Blk.ne_ kO1 kRF1 (by decide) | omega
          have neF2 : gF ≠ (w.heap.size + 3) := by have := kRF1.lt; have := kF1.lt; first | exact Blk.ne_ kF1 kRF1 (by decide) | omega
          go_simp
          refine hK.out _ _ (by exact ⟨(((kO1).far (p := ⟨(w.heap.size + 3), 0, none⟩) neO2 (.int .i64 sz)).far (p := ⟨(w.heap.size + 3), 1, none⟩) neO2 (.slice D4 n3 D4c)).get 0 rfl, (((kO1).far (p := ⟨(w.heap.size + 3), 0, none⟩) neO2 (.int .i64 sz)).far (p := ⟨(w.heap.size + 3), 1, none⟩) neO2 (.slice D4 n3 D4c)).get 1 rfl, (((kF1).far (p := ⟨(w.heap.size + 3), 0, none⟩) neF2 (.int .i64 sz)).far (p := ⟨(w.heap.size + 3), 1, none⟩) neF2 (.slice D4 n3 D4c)).get 0 rfl, (((kF1).far (p := ⟨(w.heap.size + 3), 0, none⟩) neF2 (.int .i64 sz)).far (p := ⟨(w.heap.size + 3), 1, none⟩) neF2 (.slice D4 n3 D4c)).get 1 rfl⟩) (fun _ => ?_)
          clear hK K x2_0 f2_0 x2_1 f2_1 lE2
          refine foldH ?_
          intro r2 hr2
          have bw2 : Below w.heap.size w r2 := by rw [hr2]; exact belC (belC (bw1) _ 0 (by omega) (.int .i64 sz)) _ 1 (by omega) (.slice D4 n3 D4c)
          have kX2 : Blk r2 w.heap.size 31 #[.slice A1 n1 c1, .slice A2 n2 c2] := by rw [hr2]; exact ((kX1).far (p := ⟨(w.heap.size + 3), 0, none⟩) neX2 (.int .i64 sz)).far (p := ⟨(w.heap.size + 3), 1, none⟩) neX2 (.slice D4 n3 D4c)
          have kY2 : Blk r2 (w.heap.size + 1) 34 #[.int .i64 sz, .slice A3 n3 c3] := by rw [hr2]; exact ((kY1).far (p := ⟨(w.heap.size + 3), 0, none⟩) neY2 (.int .i64 sz)).far (p := ⟨(w.heap.size + 3), 1, none⟩) neY2 (.slice D4 n3 D4c)
          have kRS2 : Blk r2 (w.heap.size + 2) 31 #[.slice D2 n1 D2c, .slice D3 n2 D3c] := by rw [hr2]; exact ((kRS1).far (p := ⟨(w.heap.size + 3), 0, none⟩) neRS2 (.int .i64 sz)).far (p := ⟨(w.heap.size + 3), 1, none⟩) neRS2 (.slice D4 n3 D4c)
          have kRF2 : Blk r2 (w.heap.size + 3) 34 #[.int .i64 sz, .slice D4 n3 D4c] := by rw [hr2]; exact ((kRF1.put 0 (.int .i64 sz) #[.int .i64 sz, .slice none 0 0] rfl).put 1 (.slice D4 n3 D4c) #[.int .i64 sz, .slice D4 n3 D4c] rfl)
          have kO2 : Blk r2 gO 31 #[.slice D2 n1 D2c, .slice D3 n2 D3c] := by rw [hr2]; exact ((kO1).far (p := ⟨(w.heap.size + 3), 0, none⟩) neO2 (.int .i64 sz)).far (p := ⟨(w.heap.size + 3), 1, none⟩) neO2 (.slice D4 n3 D4c)
          have kF2 : Blk r2 gF 34 #[.int .i64 sz, .slice D4 n3 D4c] := by rw [hr2]; exact ((kF1).far (p := ⟨(w.heap.size + 3), 0, none⟩) neF2 (.int .i64 sz)).far (p := ⟨(w.heap.size + 3), 1, none⟩) neF2 (.slice D4 n3 D4c)
          have oD22 : r2.ownsRow w.heap.size 4 1 (.slice D2 n1 D2c) n1 (BS S.bs) := by rw [hr2]; exact own_farT (own_farT (oD21) kRF1 (by decide) 0 (.int .i64 sz)) (kRF1.put 0 (.int .i64 sz) #[.int .i64 sz, .slice none 0 0] rfl) (by decide) 1 (.slice D4 n3 D4c)
          have oD32 : r2.ownsRow w.heap.size 9 1 (.slice D3 n2 D3c) n2 (SS S.ds) := by rw [hr2]; exact own_farT (own_farT (oD31) kRF1 (by decide) 0 (.int .i64 sz)) (kRF1.put 0 (.int .i64 sz) #[.int .i64 sz, .slice none 0 0] rfl) (by decide) 1 (.slice D4 n3 D4c)
          have oD42 : r2.ownsRow w.heap.size 76 3 (.slice D4 n3 D4c) n3 (XS F.xs) := by rw [hr2]; exact own_farT (own_farT (oD41) kRF1 (by decide) 0 (.int .i64 sz)) (kRF1.put 0 (.int .i64 sz) #[.int .i64 sz, .slice none 0 0] rfl) (by decide) 1 (.slice D4 n3 D4c)
          clear hr2
          refine wpAnyH_take (i := 4) (oi := ?oi1405) (v := ?v1405) ?hi1405 ?hs1405 ?hf1405 ?hr1405 ?hQ1405 ?hy1405 ?hS1405 ?hrest1405
          case hi1405 => (conv => lhs; simp only [List.getElem?_toArray, List.getElem?_cons_zero, List.getElem?_cons_succ]); try exact rfl
          case hs1405 => kernel_rfl
          case hf1405 => kernel_rfl
          case hr1405 => kernel_rfl
          case hQ1405 => exact fun _ _ _ h => h
          case hS1405 => exact ⟨(kO2).get 0 rfl, (kO2).get 1 rfl, (kF2).get 0 rfl, (kF2).get 1 rfl⟩
          case hy1405 => refine Or.inl ⟨by rfl, ?_⟩; intro w hSw; (try dsimp only at hSw); go_simp; (try with_reducible rfl)
          simp only [Act.put, List.setIfInBounds_toArray, List.set_cons_zero, List.set_cons_succ]
          refine wpAnyH_done (by kernel_rfl) ?_ _
          have r0f := kRS2.get (x := .slice D2 n1 D2c) 0 rfl
          have r1f := kRS2.get (x := .slice D3 n2 D3c) 1 rfl
          have r2f := kRF2.get (x := .int .i64 sz) 0 rfl
          have r3f := kRF2.get (x := .slice D4 n3 D4c) 1 rfl
          have OO1 := Lib.hid (own_eqn oD22 Hl1.out.symm)
          have OO2 := Lib.hid (own_eqn oD32 Hl2.out.symm)
          have OO3 := Lib.hid (own_eqn oD42 Hl3.out.symm)
          have lF1 := kRS2.lt
          have lF2 := kRF2.lt
          have BE := bw2
          clear kX2 kY2 kRS2 kRF2 kO2 kF2 oD22 oD32 oD42
          go_wp2
          obtain ⟨rfl, rfl, rfl⟩ := HPe.out
          exact bodyPost_ret (v := .tuple #[.agg #[.slice D2 n1 D2c, .slice D3 n2 D3c], .agg #[.int .i64 sz, .slice D4 n3 D4c], .bool true]) (by simp [results, Try.results9, go_sem, r0f, r1f, r2f, r3f]) rfl (wrPost_of (Hsz.out) OO1.out OO2.out OO3.out BE)
    obtain ⟨em1, em2, em3⟩ := full_tests hem
    obtain ⟨o, rfl⟩ : ∃ o : Nat, off = o := ⟨off.toNat, by omega⟩
    have HP2 := Lib.hid (show wrOut S F o data = (S', F', ok) by have h := HP.out; unfold writeP at h; rw [if_pos ⟨hok, by omega, by omega⟩, if_neg hem] at h; simpa using h)
    have hst := storeOk_iff.1 (filOk_parts hok).1
    have HOk := Lib.hid hok
    have hn1 : n1 = 24 := by rw [← Hl1.out]; exact hst.1
    have hn2 : n2 = 24 := by rw [← Hl2.out]; exact hst.2.1
    subst hn1
    subst hn2
    have HWI := Lib.hid (show WI (S.bs, S.ds, F.xs) from ⟨hst.1, hst.2.1, hst.2.2, HF.out⟩)
    obtain ⟨g1, k1, he⟩ := own_form1 oD2.out (by omega)
    simp only [Value.slice.injEq, true_and] at he
    obtain ⟨rfl, rfl⟩ := he
    obtain ⟨g2, k2, he⟩ := own_form1 oD3.out (by omega)
    simp only [Value.slice.injEq, true_and] at he
    obtain ⟨rfl, rfl⟩ := he
    have HW := Lib.hid (show WrW w w2 #[.slice A1 24 c1, .slice A2 24 c2] #[.int .i64 sz, .slice A3 n3 c3] gO gF g1 D2c g2 D3c sz D4 D4c (S.bs, S.ds, F.xs) from
      ⟨kX.out, kY.out, kRS.out, kRF.out, kO.out, by rw [Hl3.out]; exact kF.out, oD2.out, oD3.out, by rw [Hl3.out]; exact oD4.out, lO, lF, BC⟩)
    clear kX kY kRS kRF kO kF oD2 oD3 oD4 BC hok hst wds HP
    have he48 : o + data.size ≤ 48 := by omega
    obtain ⟨E, hE⟩ : ∃ E : Nat, (o + data.size + 3) / 4 = E := ⟨_, rfl⟩
    have HE := Lib.hid (show endsP ((o : Int) + (data.size : Int)) = (E : Int) by unfold endsP; omega)
    obtain ⟨q, hq⟩ : ∃ q : Nat, o / 4 = q := ⟨_, rfl⟩
    have hqE : q < E := by omega
    have HqE := Lib.hid (show o / 4 = q ∧ (o + data.size + 3) / 4 = E from ⟨hq, hE⟩)
    have hoq : (o : Int) / 4 = (q : Int) := by omega
    have HLoop := Lib.hid (show wrOut S F o data = wrRes S F o data (wrLoop o data (E - q) q (S.bs, S.ds, F.xs)) by unfold wrOut wrN; rw [hq, hE])
    obtain ⟨LP, hLP⟩ : ∃ L, wrLoop o data (E - q) q (S.bs, S.ds, F.xs) = L := ⟨_, rfl⟩
    rw [hLP] at HLoop
    have HLP := Lib.hid hLP
    clear hLP hE hq
    have wod : IntKind.i64.wrap ((o : Int) + (data.size : Int)) = (o : Int) + (data.size : Int) := by rw [IntKind.wrap_i64]; omega
    go_wp2
    go_loopw [14] (fun t wr => ∃ (i rem : Nat) (s : WSt) (Ae : Option Addr) (ce : Nat), t = .int .i64 i ∧ q ≤ i ∧ i + rem = E ∧ Hid (wrLoop o data rem i s = LP) ∧ Hid (WI s) ∧ Hid (WrW w wr #[.slice A1 24 c1, .slice A2 24 c2] #[.int .i64 sz, .slice A3 n3 c3] gO gF g1 D2c g2 D3c sz Ae ce s)) (fun t _ => E - (intOf t).toNat)
    case atStart => exact ⟨q, E - q, _, D4, D4c, by first | rfl | go_num, by omega, by omega, HLP.out, HWI.out, HW.out⟩
    case round =>
      clear HW HWI HLP HOk em1 em2 em3
      obtain ⟨i, rem, s, Ae, ce, rfl, hqi, hiE, HL, HI, HW⟩ := hrel
      have HqE2 := HqE.out
      have hE12 : E ≤ 12 := by omega
      have c0 : (0 : Int) ≤ (o : Int) + (data.size : Int) := by omega
      go_wp2_with fail
      refine (ends_impl _ c0 (by omega) _).mono ?_
      rintro e w' ⟨rfl, rfl⟩
      rw [HE.out]
      by_cases hlt : i < E
      · obtain ⟨r, rfl⟩ : ∃ r, rem = r + 1 := ⟨rem - 1, by omega⟩
        have q0 : (0 : Int) ≤ (i : Int) := by omega
        have q1 : (i : Int) < (E : Int) := by omega
        have hi12 : i < 12 := by omega
        have Hin := Lib.hid (show o < (i + 1) * 4 ∧ i * 4 < o + data.size by omega)
        have fF1 := HW.out.F.get (x := .slice Ae s.2.2.length ce) 1 rfl
        have lF1 := HW.out.F.lt
        clear HqE2
        go_wp2_with fail
        refine (blockAt_impl Ae s.2.2.length ce s.2.2 HI.out.x i hi12 _ (own_reads0 HW.out.b3)).mono ?_
        rintro e w3 ⟨rfl, hb3⟩
        replace HW := Lib.hid (HW.out.next hb3)
        clear fF1 lF1 hb3
        go_upto_if 60 with fail
        go_cut [15] from 49 to 110 (fun t wx => ∃ (b : Nat) (s1 : WSt) (Ae1 : Option Addr) (ce1 : Nat), t = .int .i64 b ∧ Hid (wrPick i s = some (b, s1)) ∧ Hid (WrW w wx #[.slice A1 24 c1, .slice A2 24 c2] #[.int .i64 sz, .slice A3 n3 c3] gO gF g1 D2c g2 D3c sz Ae1 ce1 s1))
        case first => as_aux_lemma =>
          have hbd := blockP_bd s.2.2 i
          by_cases hb0 : blockP s.2.2 i < 0
          · have hb0b : decide (blockP s.2.2 i < 0) = true := by simpa using hb0
            have fO0 := HW.out.O.get (x := .slice (some ⟨g1, 0, none⟩) 24 D2c) 0 rfl
            have lO0 := HW.out.O.lt
            go_wp2_with fail
            refine (findRun_impl (some ⟨g1, 0, none⟩) 24 D2c s.1 _ (own_reads0 HW.out.b1)).mono ?_
            rintro e w4 ⟨rfl, hb4⟩
            replace HW := Lib.hid (HW.out.next hb4)
            clear fO0 lO0 hb4 hb0b
            have hfd := findP_bd s.1
            by_cases hf0 : findP s.1 < 0
            · have HPe := Lib.hid (show S = S' ∧ F = F' ∧ false = ok by
                have h := HP2.out
                rw [HLoop.out, ← HL.out, wrLoop_none (wrPick_no hb0 hf0)] at h
                simpa [wrRes] using h)
              go_upto_region 14 with fail
              refine wp_region_held_drew (S := fun w' => w'.cell? ⟨w.heap.size, 0, none⟩ = some (.slice A1 24 c1) ∧ w'.cell? ⟨w.heap.size, 1, none⟩ = some (.slice A2 24 c2) ∧ w'.cell? ⟨(w.heap.size + 1), 0, none⟩ = some (.int .i64 sz) ∧ w'.cell? ⟨(w.heap.size + 1), 1, none⟩ = some (.slice A3 n3 c3)) (by kernel_rfl) (by exact ⟨(HW.out.X).get 0 rfl, (HW.out.X).get 1 rfl, (HW.out.Y).get 0 rfl, (HW.out.Y).get 1 rfl⟩) (fun hHeld => ?_)
              clear hHeld
              refine foldH ?_
              intro r0 hr0
              have bw0 : Below w.heap.size w r0 := by rw [hr0]; exact (HW.out.bel).drew
              have kX0 : Blk r0 w.heap.size 31 #[.slice A1 24 c1, .slice A2 24 c2] := by rw [hr0]; exact HW.out.X.drew
              have kY0 : Blk r0 (w.heap.size + 1) 34 #[.int .i64 sz, .slice A3 n3 c3] := by rw [hr0]; exact HW.out.Y.drew
              have kRS0 : Blk r0 (w.heap.size + 2) 31 #[.slice none 0 0, .slice none 0 0] := by rw [hr0]; exact HW.out.RS.drew
              have kRF0 : Blk r0 (w.heap.size + 3) 34 #[.int .i64 0, .slice none 0 0] := by rw [hr0]; exact HW.out.RF.drew
              clear hr0
              refine wpAnyH_take (i := 0) (oi := ?oi5001) (v := ?v5001) ?hi5001 ?hs5001 ?hf5001 ?hr5001 ?hQ5001 ?hy5001 ?hS5001 ?hrest5001
              case hi5001 => (conv => lhs; simp only [List.getElem?_toArray, List.getElem?_cons_zero]); try exact rfl
              case hs5001 => kernel_rfl
              case hf5001 => kernel_rfl
              case hr5001 => kernel_rfl
              case hQ5001 => exact fun _ _ _ h => h
              case hS5001 => exact ⟨(kX0).get 0 rfl, (kX0).get 1 rfl, (kY0).get 0 rfl, (kY0).get 1 rfl⟩
              case hy5001 => refine Or.inl ⟨by rfl, ?_⟩; intro w hSw; (try dsimp only at hSw); go_simp; (try with_reducible rfl)
              simp only [Act.put, List.setIfInBounds_toArray, List.set_cons_zero, List.set_cons_succ]
              refine wpAnyH_take (i := 2) (oi := ?oi5002) (v := ?v5002) ?hi5002 ?hs5002 ?hf5002 ?hr5002 ?hQ5002 ?hy5002 ?hS5002 ?hrest5002
              case hi5002 => (conv => lhs; simp only [List.getElem?_toArray, List.getElem?_cons_zero, List.getElem?_cons_succ]); try exact rfl
              case hs5002 => kernel_rfl
              case hf5002 => kernel_rfl
              case hr5002 => kernel_rfl
              case hQ5002 => exact fun _ _ _ h => h
              case hS5002 => exact ⟨(kX0).get 0 rfl, (kX0).get 1 rfl, (kY0).get 0 rfl, (kY0).get 1 rfl⟩
              case hy5002 => refine Or.inl ⟨by rfl, ?_⟩; intro w hSw; (try dsimp only at hSw); go_simp; (try with_reducible rfl)
              simp only [Act.put, List.setIfInBounds_toArray, List.set_cons_zero, List.set_cons_succ]
              refine wpAnyH_ready (rs := [1]) (by kernel_rfl) (by simp) ?_
              refine AllReadyH.cons (o := ?oi5003) ?hi5003 (fun K hK => ?br5003) AllReadyH.nil
              case hi5003 => (conv => lhs; simp only [List.getElem?_toArray, List.getElem?_cons_zero, List.getElem?_cons_succ]); try exact rfl
              case br5003 =>
                go_simp
                go_at_call 30
                refine (copyStore_impl _ S HS.out _ (HSto.out _ bw0)).mono ?_
                rintro e r1 ⟨_, rfl, hOS, hb1r⟩
                have bw1 : Below w.heap.size w r1 := bw0.trans (hb1r.mono bw0.size)
                have kX1 : Blk r1 w.heap.size 31 #[.slice A1 24 c1, .slice A2 24 c2] := kX0.below hb1r kX0.lt
                have kY1 : Blk r1 (w.heap.size + 1) 34 #[.int .i64 sz, .slice A3 n3 c3] := kY0.below hb1r kY0.lt
                have kRS1 : Blk r1 (w.heap.size + 2) 31 #[.slice none 0 0, .slice none 0 0] := kRS0.below hb1r kRS0.lt
                have kRF1 : Blk r1 (w.heap.size + 3) 34 #[.int .i64 0, .slice none 0 0] := kRF0.below hb1r kRF0.lt
                obtain ⟨_, _, rfl, oa, ob⟩ := hOS
                rw [Hl1.out] at oa
                rw [Hl2.out] at ob
                obtain ⟨D2, D2c, rfl, _, _, _⟩ := own_vals oa
                obtain ⟨D3, D3c, rfl, _, _, _⟩ := own_vals ob
                have oD21 := own_more oa bw0.size
                have oD31 := own_more ob bw0.size
                clear oa ob
                refine hK.out _ _ (by exact ⟨(kX1).get 0 rfl, (kX1).get 1 rfl, (kY1).get 0 rfl, (kY1).get 1 rfl⟩) (fun _ => ?_)
                clear hK K
                refine wpAnyH_ready (rs := [3]) (by kernel_rfl) (by simp) ?_
                refine AllReadyH.cons (o := ?oi5004) ?hi5004 (fun K hK => ?br5004) AllReadyH.nil
                case hi5004 => (conv => lhs; simp only [List.getElem?_toArray, List.getElem?_cons_zero, List.getElem?_cons_succ]); try exact rfl
                case br5004 =>
                  go_simp
                  go_at_call 31
                  refine (copyFil_impl _ F HF.out _ (HFil.out _ bw1)).mono ?_
                  rintro e r2 ⟨_, rfl, hOF, hb2r⟩
                  have bw2 : Below w.heap.size w r2 := bw1.trans (hb2r.mono bw1.size)
                  have kX2 : Blk r2 w.heap.size 31 #[.slice A1 24 c1, .slice A2 24 c2] := kX1.below hb2r kX1.lt
                  have kY2 : Blk r2 (w.heap.size + 1) 34 #[.int .i64 sz, .slice A3 n3 c3] := kY1.below hb2r kY1.lt
                  have kRS2 : Blk r2 (w.heap.size + 2) 31 #[.slice none 0 0, .slice none 0 0] := kRS1.below hb2r kRS1.lt
                  have kRF2 : Blk r2 (w.heap.size + 3) 34 #[.int .i64 0, .slice none 0 0] := kRF1.below hb2r kRF1.lt
                  have oD22 : r2.ownsRow w.heap.size 4 1 (.slice D2 24 D2c) 24 (BS S.bs) := own_below oD21 hb2r (Nat.le_refl _)
                  have oD32 : r2.ownsRow w.heap.size 9 1 (.slice D3 24 D3c) 24 (SS S.ds) := own_below oD31 hb2r (Nat.le_refl _)
                  obtain ⟨_, rfl, oa⟩ := hOF
                  rw [Hl3.out] at oa
                  rw [Hsz.out]
                  obtain ⟨D4, D4c, rfl, _, _, _⟩ := own_vals oa
                  have oD42 := own_more oa bw1.size
                  clear oa
                  refine hK.out _ _ (by exact ⟨(kX2).get 0 rfl, (kX2).get 1 rfl, (kY2).get 0 rfl, (kY2).get 1 rfl⟩) (fun _ => ?_)
                  clear hK K
                  refine wpAnyH_ready (rs := [4]) (by kernel_rfl) (by simp) ?_
                  refine AllReadyH.cons (o := ?oi5005) ?hi5005 (fun K hK => ?br5005) AllReadyH.nil
                  case hi5005 => (conv => lhs; simp only [List.getElem?_toArray, List.getElem?_cons_zero, List.getElem?_cons_succ]); try exact rfl
                  case br5005 =>
                    have x3_0 := kRS2.get (x := .slice none 0 0) 0 rfl
                    have f3_0 := kRS2.frozen 0
                    have x3_1 := kRS2.get (x := .slice none 0 0) 1 rfl
                    have f3_1 := kRS2.frozen 1
                    have lE3 := kRS2.lt
                    have neX3 : w.heap.size ≠ (w.heap.size + 2) := by have := kRS2.lt; have := kX2.lt; first | exact Blk.ne_ kX2 kRS2 (by decide) | omega
                    have neY3 : (w.heap.size + 1) ≠ (w.heap.size + 2) := by have := kRS2.lt; have := kY2.lt; first | exact Blk.ne_ kY2 kRS2 (by decide) | omega
                    have neRF3 : (w.heap.size + 3) ≠ (w.heap.size + 2) := by have := kRS2.lt; have := kRF2.lt; first | exact Blk.ne_ kRF2 kRS2 (by decide) | omega
                    go_simp
                    refine hK.out _ _ (by exact ⟨(((kX2).far (p := ⟨(w.heap.size + 2), 0, none⟩) neX3 (.slice D2 24 D2c)).far (p := ⟨(w.heap.size + 2), 1, none⟩) neX3 (.slice D3 24 D3c)).get 0 rfl, (((kX2).far (p := ⟨(w.heap.size + 2), 0, none⟩) neX3 (.slice D2 24 D2c)).far (p := ⟨(w.heap.size + 2), 1, none⟩) neX3 (.slice D3 24 D3c)).get 1 rfl, (((kY2).far (p := ⟨(w.heap.size + 2), 0, none⟩) neY3 (.slice D2 24 D2c)).far (p := ⟨(w.heap.size + 2), 1, none⟩) neY3 (.slice D3 24 D3c)).get 0 rfl, (((kY2).far (p := ⟨(w.heap.size + 2), 0, none⟩) neY3 (.slice D2 24 D2c)).far (p := ⟨(w.heap.size + 2), 1, none⟩) neY3 (.slice D3 24 D3c)).get 1 rfl⟩) (fun _ => ?_)
                    clear hK K x3_0 f3_0 x3_1 f3_1 lE3
                    refine foldH ?_
                    intro r3 hr3
                    have bw3 : Below w.heap.size w r3 := by rw [hr3]; exact belC (belC (bw2) _ 0 (by omega) (.slice D2 24 D2c)) _ 1 (by omega) (.slice D3 24 D3c)
                    have kX3 : Blk r3 w.heap.size 31 #[.slice A1 24 c1, .slice A2 24 c2] := by rw [hr3]; exact ((kX2).far (p := ⟨(w.heap.size + 2), 0, none⟩) neX3 (.slice D2 24 D2c)).far (p := ⟨(w.heap.size + 2), 1, none⟩) neX3 (.slice D3 24 D3c)
                    have kY3 : Blk r3 (w.heap.size + 1) 34 #[.int .i64 sz, .slice A3 n3 c3] := by rw [hr3]; exact ((kY2).far (p := ⟨(w.heap.size + 2), 0, none⟩) neY3 (.slice D2 24 D2c)).far (p := ⟨(w.heap.size + 2), 1, none⟩) neY3 (.slice D3 24 D3c)
                    have kRS3 : Blk r3 (w.heap.size + 2) 31 #[.slice D2 24 D2c, .slice D3 24 D3c] := by rw [hr3]; exact ((kRS2.put 0 (.slice D2 24 D2c) #[.slice D2 24 D2c, .slice none 0 0] rfl).put 1 (.slice D3 24 D3c) #[.slice D2 24 D2c, .slice D3 24 D3c] rfl)
                    have kRF3 : Blk r3 (w.heap.size + 3) 34 #[.int .i64 0, .slice none 0 0] := by rw [hr3]; exact ((kRF2).far (p := ⟨(w.heap.size + 2), 0, none⟩) neRF3 (.slice D2 24 D2c)).far (p := ⟨(w.heap.size + 2), 1, none⟩) neRF3 (.slice D3 24 D3c)
                    have oD23 : r3.ownsRow w.heap.size 4 1 (.slice D2 24 D2c) 24 (BS S.bs) := by rw [hr3]; exact own_farT (own_farT (oD22) kRS2 (by decide) 0 (.slice D2 24 D2c)) (kRS2.put 0 (.slice D2 24 D2c) #[.slice D2 24 D2c, .slice none 0 0] rfl) (by decide) 1 (.slice D3 24 D3c)
                    have oD33 : r3.ownsRow w.heap.size 9 1 (.slice D3 24 D3c) 24 (SS S.ds) := by rw [hr3]; exact own_farT (own_farT (oD32) kRS2 (by decide) 0 (.slice D2 24 D2c)) (kRS2.put 0 (.slice D2 24 D2c) #[.slice D2 24 D2c, .slice none 0 0] rfl) (by decide) 1 (.slice D3 24 D3c)
                    have oD43 : r3.ownsRow w.heap.size 76 3 (.slice D4 n3 D4c) n3 (XS F.xs) := by rw [hr3]; exact own_farT (own_farT (oD42) kRS2 (by decide) 0 (.slice D2 24 D2c)) (kRS2.put 0 (.slice D2 24 D2c) #[.slice D2 24 D2c, .slice none 0 0] rfl) (by decide) 1 (.slice D3 24 D3c)
                    clear hr3
                    refine wpAnyH_ready (rs := [5]) (by kernel_rfl) (by simp) ?_
                    refine AllReadyH.cons (o := ?oi5006) ?hi5006 (fun K hK => ?br5006) AllReadyH.nil
                    case hi5006 => (conv => lhs; simp only [List.getElem?_toArray, List.getElem?_cons_zero, List.getElem?_cons_succ]); try exact rfl
                    case br5006 =>
                      have x4_0 := kRF3.get (x := .int .i64 0) 0 rfl
                      have f4_0 := kRF3.frozen 0
                      have x4_1 := kRF3.get (x := .slice none 0 0) 1 rfl
                      have f4_1 := kRF3.frozen 1
                      have lE4 := kRF3.lt
                      have neX4 : w.heap.size ≠ (w.heap.size + 3) := by have := kRF3.lt; have := kX3.lt; first | exact Blk.ne_ kX3 kRF3 (by decide) | omega
                      have neY4 : (w.heap.size + 1) ≠ (w.heap.size + 3) := by have := kRF3.lt; have := kY3.lt; first | exact Blk.ne_ kY3 kRF3 (by decide) | omega
                      have neRS4 : (w.heap.size + 2) ≠ (w.heap.size + 3) := by have := kRF3.lt; have := kRS3.lt; first | exact Blk.ne_ kRS3 kRF3 (by decide) | omega
                      go_simp
                      refine hK.out _ _ (by exact ⟨(((kX3).far (p := ⟨(w.heap.size + 3), 0, none⟩) neX4 (.int .i64 sz)).far (p := ⟨(w.heap.size + 3), 1, none⟩) neX4 (.slice D4 n3 D4c)).get 0 rfl, (((kX3).far (p := ⟨(w.heap.size + 3), 0, none⟩) neX4 (.int .i64 sz)).far (p := ⟨(w.heap.size + 3), 1, none⟩) neX4 (.slice D4 n3 D4c)).get 1 rfl, (((kY3).far (p := ⟨(w.heap.size + 3), 0, none⟩) neY4 (.int .i64 sz)).far (p := ⟨(w.heap.size + 3), 1, none⟩) neY4 (.slice D4 n3 D4c)).get 0 rfl, (((kY3).far (p := ⟨(w.heap.size + 3), 0, none⟩) neY4 (.int .i64 sz)).far (p := ⟨(w.heap.size + 3), 1, none⟩) neY4 (.slice D4 n3 D4c)).get 1 rfl⟩) (fun _ => ?_)
                      clear hK K x4_0 f4_0 x4_1 f4_1 lE4
                      refine foldH ?_
                      intro r4 hr4
                      have bw4 : Below w.heap.size w r4 := by rw [hr4]; exact belC (belC (bw3) _ 0 (by omega) (.int .i64 sz)) _ 1 (by omega) (.slice D4 n3 D4c)
                      have kX4 : Blk r4 w.heap.size 31 #[.slice A1 24 c1, .slice A2 24 c2] := by rw [hr4]; exact ((kX3).far (p := ⟨(w.heap.size + 3), 0, none⟩) neX4 (.int .i64 sz)).far (p := ⟨(w.heap.size + 3), 1, none⟩) neX4 (.slice D4 n3 D4c)
                      have kY4 : Blk r4 (w.heap.size + 1) 34 #[.int .i64 sz, .slice A3 n3 c3] := by rw [hr4]; exact ((kY3).far (p := ⟨(w.heap.size + 3), 0, none⟩) neY4 (.int .i64 sz)).far (p := ⟨(w.heap.size + 3), 1, none⟩) neY4 (.slice D4 n3 D4c)
                      have kRS4 : Blk r4 (w.heap.size + 2) 31 #[.slice D2 24 D2c, .slice D3 24 D3c] := by rw [hr4]; exact ((kRS3).far (p := ⟨(w.heap.size + 3), 0, none⟩) neRS4 (.int .i64 sz)).far (p := ⟨(w.heap.size + 3), 1, none⟩) neRS4 (.slice D4 n3 D4c)
                      have kRF4 : Blk r4 (w.heap.size + 3) 34 #[.int .i64 sz, .slice D4 n3 D4c] := by rw [hr4]; exact ((kRF3.put 0 (.int .i64 sz) #[.int .i64 sz, .slice none 0 0] rfl).put 1 (.slice D4 n3 D4c) #[.int .i64 sz, .slice D4 n3 D4c] rfl)
                      have oD24 : r4.ownsRow w.heap.size 4 1 (.slice D2 24 D2c) 24 (BS S.bs) := by rw [hr4]; exact own_farT (own_farT (oD23) kRF3 (by decide) 0 (.int .i64 sz)) (kRF3.put 0 (.int .i64 sz) #[.int .i64 sz, .slice none 0 0] rfl) (by decide) 1 (.slice D4 n3 D4c)
                      have oD34 : r4.ownsRow w.heap.size 9 1 (.slice D3 24 D3c) 24 (SS S.ds) := by rw [hr4]; exact own_farT (own_farT (oD33) kRF3 (by decide) 0 (.int .i64 sz)) (kRF3.put 0 (.int .i64 sz) #[.int .i64 sz, .slice none 0 0] rfl) (by decide) 1 (.slice D4 n3 D4c)
                      have oD44 : r4.ownsRow w.heap.size 76 3 (.slice D4 n3 D4c) n3 (XS F.xs) := by rw [hr4]; exact own_farT (own_farT (oD43) kRF3 (by decide) 0 (.int .i64 sz)) (kRF3.put 0 (.int .i64 sz) #[.int .i64 sz, .slice none 0 0] rfl) (by decide) 1 (.slice D4 n3 D4c)
                      clear hr4
                      refine wpAnyH_take (i := 6) (oi := ?oi5007) (v := ?v5007) ?hi5007 ?hs5007 ?hf5007 ?hr5007 ?hQ5007 ?hy5007 ?hS5007 ?hrest5007
                      case hi5007 => (conv => lhs; simp only [List.getElem?_toArray, List.getElem?_cons_zero, List.getElem?_cons_succ]); try exact rfl
                      case hs5007 => kernel_rfl
                      case hf5007 => kernel_rfl
                      case hr5007 => kernel_rfl
                      case hQ5007 => exact fun _ _ _ h => h
                      case hS5007 => exact ⟨(kX4).get 0 rfl, (kX4).get 1 rfl, (kY4).get 0 rfl, (kY4).get 1 rfl⟩
                      case hy5007 => refine Or.inl ⟨by rfl, ?_⟩; intro w hSw; (try dsimp only at hSw); go_simp; (try with_reducible rfl)
                      simp only [Act.put, List.setIfInBounds_toArray, List.set_cons_zero, List.set_cons_succ]
                      refine wpAnyH_done (by kernel_rfl) ?_ _
                      have r0f := kRS4.get (x := .slice D2 24 D2c) 0 rfl
                      have r1f := kRS4.get (x := .slice D3 24 D3c) 1 rfl
                      have r2f := kRF4.get (x := .int .i64 sz) 0 rfl
                      have r3f := kRF4.get (x := .slice D4 n3 D4c) 1 rfl
                      have OO1 := Lib.hid (own_eqn oD24 Hl1.out.symm)
                      have OO2 := Lib.hid (own_eqn oD34 Hl2.out.symm)
                      have OO3 := Lib.hid (own_eqn oD44 Hl3.out.symm)
                      have lF1 := kRS4.lt
                      have lF2 := kRF4.lt
                      have BE := bw4
                      clear kX4 kY4 kRS4 kRF4 oD24 oD34 oD44
                      go_wp2
                      obtain ⟨rfl, rfl, rfl⟩ := HPe.out
                      exact bodyPost_ret (v := .tuple #[.agg #[.slice D2 24 D2c, .slice D3 24 D3c], .agg #[.int .i64 sz, .slice D4 n3 D4c], .bool false]) (by simp [results, Try.results9, go_sem, r0f, r1f, r2f, r3f]) rfl (wrPost_of (Hsz.out) OO1.out OO2.out OO3.out BE)
            · obtain ⟨b, hbe⟩ : ∃ b : Nat, findP s.1 = b := ⟨(findP s.1).toNat, by omega⟩
              have HPk := Lib.hid (wrPick_new hb0 hbe)
              have hb24 : b < 24 := by omega
              have b0 : (0 : Int) ≤ (b : Int) := by omega
              have b1 : (b : Int) < 24 := by omega
              rw [hbe]
              have fO0 := HW.out.O.get (x := .slice (some ⟨g1, 0, none⟩) 24 D2c) 0 rfl
              have lO0 := HW.out.O.lt
              obtain ⟨u0, ck⟩ := own_cel HW.out.b1 b hb24
              have fk := own_frozen HW.out.b1 b
              clear hb0 hf0 hbe hfd hbd
              go_upto_region 16 with fail
              have HW5 := HW.out.bit b true
              clear fO0 lO0 ck fk HW
              generalize w4.setCell ⟨g1, b, none⟩ (.bool true) = w5 at HW5 ⊢
              have HW := Lib.hid HW5
              have fO1 := HW5.O.get (x := .slice (some ⟨g2, 0, none⟩) 24 D3c) 1 rfl
              have lO1 := HW5.O.lt
              clear HW5
              go_region_held3 (fun w' => w'.cell? ⟨gO, 1, none⟩ = some (.slice (some ⟨g2, 0, none⟩) 24 D3c)) (first | go_keep | (refine keep1 hb9 ?_ <;> go_keep))
                (first
                  | (go_at_call 36; refine (zeros_impl 4 (by omega) _).mono ?_; rintro e w9 ⟨rfl, hb9⟩; have HW9 := HW.out.next (wr' := w9) ((bel0 w5).drew.trans (hb9)); obtain ⟨u9, c9⟩ := own_cel HW9.b2 b hb24; have f9 := own_frozen HW9.b2 b; have l9 := (own_ltX HW9.b2).2; have neO : gO ≠ g2 := fun e => own_blk_ne HW9.b2 HW9.O (by decide) (by rw [e]; rfl); have neO2 : g2 ≠ gO := fun e => neO e.symm; replace HW9 := Lib.hid HW9))
              have HWp := HW9.out.put b (zer 4)
              clear c9 f9 fO1 lO1 HW HW9
              generalize w9.setCell ⟨g2, b, none⟩ (.string (zer 4)) = wp at HWp ⊢
              have HW := Lib.hid HWp
              clear HWp
              have fF1 := HW.out.F.get (x := .slice Ae s.2.2.length ce) 1 rfl
              have lF1 := HW.out.F.lt
              go_wp2_with fail
              refine (putBlock_impl Ae s.2.2.length ce s.2.2 HI.out.x i b hi12 hb24 _ (own_reads0 HW.out.b3)).mono ?_
              rintro e w6 ⟨v6, ok6, rfl, own6, hb6⟩
              have hlw := HW.out.bel.size
              replace HW := Lib.hid (HW.out.next hb6)
              obtain ⟨Ae6, ce6, rfl, _, _, _⟩ := own_vals own6
              have HWf := Lib.hid (HW.out.fil (own_more own6 hlw))
              clear fF1 lF1 own6 hb6
              have fF1 := HW.out.F.get (x := .slice Ae s.2.2.length ce) 1 rfl
              have fF1f := HW.out.F.frozen 1
              have lF1 := HW.out.F.lt
              go_wp2_with fail
              go_meet
              case rel => exact ⟨b, _, Ae6, ce6, rfl, HPk.out, HWf.out⟩
          · obtain ⟨b, hbe⟩ : ∃ b : Nat, blockP s.2.2 i = b := ⟨(blockP s.2.2 i).toNat, by omega⟩
            have HPk := Lib.hid (wrPick_old hbe)
            rw [hbe]
            have b2 : ¬ ((b : Int) < 0) := by omega
            clear hbe hb0 hbd
            go_wp2_with fail
            go_meet
            case rel => exact ⟨b, s, Ae, ce, rfl, HPk.out, HW.out⟩
        case rest =>
          clear HW
          obtain ⟨b, s1, Ae1, ce1, rfl, HPk, HW⟩ := hcut
          obtain ⟨hb24, HI1⟩ := HI.out.pick HPk.out
          have hinn := Hin.out
          obtain ⟨fr, hfr⟩ : ∃ fr, wrFrom o i = fr := ⟨_, rfl⟩
          obtain ⟨to_, hto⟩ : ∃ t, wrTo (o + data.size) i = t := ⟨_, rfl⟩
          have hfr2 : fr = max o (i * 4) := by rw [← hfr]; rfl
          have hto2 : to_ = min (o + data.size) ((i + 1) * 4) := by rw [← hto]; rfl
          have wi4 : IntKind.i64.wrap ((i : Int) * 4) = (i : Int) * 4 := by rw [IntKind.wrap_i64]; omega
          have wi1 : IntKind.i64.wrap ((i : Int) + 1) = (i : Int) + 1 := by rw [IntKind.wrap_i64]; omega
          have wi14 : IntKind.i64.wrap (((i : Int) + 1) * 4) = ((i : Int) + 1) * 4 := by rw [IntKind.wrap_i64]; omega
          have hmx : (if (o : Int) < (i : Int) * 4 then (i : Int) * 4 else (o : Int)) = (fr : Int) := by split <;> omega
          have hmn : (if ((i : Int) + 1) * 4 < (o : Int) + (data.size : Int) then ((i : Int) + 1) * 4 else (o : Int) + (data.size : Int)) = (to_ : Int) := by split <;> omega
          obtain ⟨a, ha⟩ : ∃ a, fr - i * 4 = a := ⟨_, rfl⟩
          obtain ⟨u1, hu1⟩ : ∃ a, fr - o = a := ⟨_, rfl⟩
          obtain ⟨u2, hu2⟩ : ∃ a, to_ - o = a := ⟨_, rfl⟩
          have ia : (fr : Int) - (i : Int) * 4 = (a : Int) := by omega
          have iu1 : (fr : Int) - (o : Int) = (u1 : Int) := by omega
          have iu2 : (to_ : Int) - (o : Int) = (u2 : Int) := by omega
          have wa : IntKind.i64.wrap (a : Int) = (a : Int) := by rw [IntKind.wrap_i64]; omega
          have wu1 : IntKind.i64.wrap (u1 : Int) = (u1 : Int) := by rw [IntKind.wrap_i64]; omega
          have wu2 : IntKind.i64.wrap (u2 : Int) = (u2 : Int) := by rw [IntKind.wrap_i64]; omega
          have v0 : (0 : Int) ≤ (u1 : Int) := by omega
          have v1 : (u1 : Int) ≤ (u2 : Int) := by omega
          have v2 : (u2 : Int) ≤ (data.size : Int) := by omega
          have v1n : u1 ≤ u2 := by omega
          have v2n : u2 ≤ data.size := by omega
          have HD := Lib.hid (show wrD o data i = data.extract u1 u2 by unfold wrD; rw [hfr, hto, hu1, hu2])
          have HA := Lib.hid (show wrFrom o i - i * 4 = a by rw [hfr, ha])
          have hds := HI1.d
          have hbl : b < s1.2.1.length := by omega
          have ht4 : s1.2.1[b].size = 4 := HI1.z _ (List.getElem_mem hbl)
          have hax : a + (data.extract u1 u2).size ≤ 4 := by
            have h := wrD_size hinn.1 hinn.2
            rw [HA.out, HD.out] at h; exact h
          have HWB := Lib.hid (show wrB o data i s1.2.1 b = s1.2.1.set b (intoB s1.2.1[b] a (data.extract u1 u2)) by rw [wrB_get hbl, HA.out, HD.out])
          have Hst := Lib.hid (fun (W : World) (hO : Blk W gO 31 #[.slice (some ⟨g1, 0, none⟩) 24 D2c, .slice (some ⟨g2, 0, none⟩) 24 D3c]) (h2 : W.ownsRow w.heap.size 9 1 (.slice (some ⟨g2, 0, none⟩) 24 D3c) 24 (SS s1.2.1)) => store_any gO g2 D2c D3c (some ⟨g1, 0, none⟩) 24 s1.2.1 b a w.heap.size (data.extract u1 u2) hds hb24 ht4 hax W hO h2)
          have HI2 := Lib.hid (HI1.wr hb24 hinn.1 hinn.2)
          have HL2 := Lib.hid (show wrLoop o data r (i + 1) (s1.1, wrB o data i s1.2.1 b, s1.2.2) = LP by rw [← HL.out, wrLoop_some HPk.out])
          clear hinn hfr hto hfr2 hto2 ha hu1 hu2
          go_wp2_with fail
          refine (Hst.out _ HW.out.O HW.out.b2).mono ?_
          rintro e w7 ⟨rfl, own7, hg7⟩
          have HW7 := Lib.hid (show WrW w w7 #[.slice A1 24 c1, .slice A2 24 c2] #[.int .i64 sz, .slice A3 n3 c3] gO gF g1 D2c g2 D3c sz Ae1 ce1 (s1.1, wrB o data i s1.2.1 b, s1.2.2) by rw [HWB.out]; exact HW.out.dat hg7 own7)
          clear own7 hg7 HW Hst hmx hmn ia iu1 iu2 wa wu1 wu2 v0 v1 v2 v1n v2n wi4 wi14
          go_wp2
          first
            | exact ⟨⟨i + 1, r, _, Ae1, ce1, by first | rfl | go_num, by omega, by omega, HL2.out, HI2.out, HW7.out⟩, by simp [intOf]; omega⟩
            | (go_roundw; case rel => exact ⟨i + 1, r, _, Ae1, ce1, by first | rfl | go_num, by omega, by omega, HL2.out, HI2.out, HW7.out⟩; case measure => (simp [intOf]; omega))
      · obtain rfl : rem = 0 := by omega
        have q1 : ¬ ((i : Int) < (E : Int)) := by omega
        obtain ⟨Z, hZ⟩ : ∃ Z, max F.sz ((o : Int) + (data.size : Int)) = Z := ⟨_, rfl⟩
        have HPe := Lib.hid (show (⟨s.1, s.2.1⟩ : StoD) = S' ∧ (⟨Z, s.2.2⟩ : FilD) = F' ∧ true = ok by
          have h := HP2.out
          rw [HLoop.out, ← HL.out] at h
          simp only [wrLoop, wrRes, Prod.mk.injEq] at h
          rw [hZ] at h
          exact h)
        have hmz : (if sz < (o : Int) + (data.size : Int) then (o : Int) + (data.size : Int) else sz) = Z := by
          rw [← hZ, Hsz.out]; split <;> omega
        have y0 := HW.out.Y.get (x := .int .i64 sz) 0 rfl
        have f0 := HW.out.F.get (x := .int .i64 sz) 0 rfl
        have f0f := HW.out.F.frozen 0
        have lY := HW.out.Y.lt
        have lF := HW.out.F.lt
        clear hZ HqE2
        go_upto_region 22 with fail
        have HWz := HW.out.size_ Z
        clear y0 f0 f0f lY lF hmz HW
        generalize wr.setCell ⟨gF, 0, none⟩ (.int .i64 Z) = w9 at HWz ⊢
        have HW := Lib.hid HWz
        clear HWz
        refine wp_region_held_drew (S := fun w' => w'.cell? ⟨gO, 0, none⟩ = some (.slice (some ⟨g1, 0, none⟩) 24 D2c) ∧ w'.cell? ⟨gO, 1, none⟩ = some (.slice (some ⟨g2, 0, none⟩) 24 D3c) ∧ w'.cell? ⟨gF, 0, none⟩ = some (.int .i64 Z) ∧ w'.cell? ⟨gF, 1, none⟩ = some (.slice Ae s.2.2.length ce)) (by kernel_rfl) (by exact ⟨(HW.out.O).get 0 rfl, (HW.out.O).get 1 rfl, (HW.out.F).get 0 rfl, (HW.out.F).get 1 rfl⟩) (fun hHeld => ?_)
        clear hHeld
        refine foldH ?_
        intro r0 hr0
        have bw0 : Below w.heap.size w r0 := by rw [hr0]; exact (HW.out.bel).drew
        have kX0 : Blk r0 w.heap.size 31 #[.slice A1 24 c1, .slice A2 24 c2] := by rw [hr0]; exact HW.out.X.drew
        have kY0 : Blk r0 (w.heap.size + 1) 34 #[.int .i64 sz, .slice A3 n3 c3] := by rw [hr0]; exact HW.out.Y.drew
        have kRS0 : Blk r0 (w.heap.size + 2) 31 #[.slice none 0 0, .slice none 0 0] := by rw [hr0]; exact HW.out.RS.drew
        have kRF0 : Blk r0 (w.heap.size + 3) 34 #[.int .i64 0, .slice none 0 0] := by rw [hr0]; exact HW.out.RF.drew
        have kO0 : Blk r0 gO 31 #[.slice (some ⟨g1, 0, none⟩) 24 D2c, .slice (some ⟨g2, 0, none⟩) 24 D3c] := by rw [hr0]; exact HW.out.O.drew
        have kF0 : Blk r0 gF 34 #[.int .i64 Z, .slice Ae s.2.2.length ce] := by rw [hr0]; exact HW.out.F.drew
        have oD20 : r0.ownsRow w.heap.size 4 1 (.slice (some ⟨g1, 0, none⟩) 24 D2c) 24 (BS s.1) := by rw [hr0]; exact HW.out.b1
        have oD30 : r0.ownsRow w.heap.size 9 1 (.slice (some ⟨g2, 0, none⟩) 24 D3c) 24 (SS s.2.1) := by rw [hr0]; exact HW.out.b2
        have oD40 : r0.ownsRow w.heap.size 76 3 (.slice Ae s.2.2.length ce) s.2.2.length (XS s.2.2) := by rw [hr0]; exact HW.out.b3
        clear hr0
        refine wpAnyH_take (i := 0) (oi := ?oi8001) (v := ?v8001) ?hi8001 ?hs8001 ?hf8001 ?hr8001 ?hQ8001 ?hy8001 ?hS8001 ?hrest8001
        case hi8001 => (conv => lhs; simp only [List.getElem?_toArray, List.getElem?_cons_zero]); try exact rfl
        case hs8001 => kernel_rfl
        case hf8001 => kernel_rfl
        case hr8001 => kernel_rfl
        case hQ8001 => exact fun _ _ _ h => h
        case hS8001 => exact ⟨(kO0).get 0 rfl, (kO0).get 1 rfl, (kF0).get 0 rfl, (kF0).get 1 rfl⟩
        case hy8001 => refine Or.inl ⟨by rfl, ?_⟩; intro w hSw; (try dsimp only at hSw); go_simp; (try with_reducible rfl)
        simp only [Act.put, List.setIfInBounds_toArray, List.set_cons_zero, List.set_cons_succ]
        refine wpAnyH_take (i := 1) (oi := ?oi8002) (v := ?v8002) ?hi8002 ?hs8002 ?hf8002 ?hr8002 ?hQ8002 ?hy8002 ?hS8002 ?hrest8002
        case hi8002 => (conv => lhs; simp only [List.getElem?_toArray, List.getElem?_cons_zero, List.getElem?_cons_succ]); try exact rfl
        case hs8002 => kernel_rfl
        case hf8002 => kernel_rfl
        case hr8002 => kernel_rfl
        case hQ8002 => exact fun _ _ _ h => h
        case hS8002 => exact ⟨(kO0).get 0 rfl, (kO0).get 1 rfl, (kF0).get 0 rfl, (kF0).get 1 rfl⟩
        case hy8002 => refine Or.inl ⟨by rfl, ?_⟩; intro w hSw; (try dsimp only at hSw); go_simp; (try with_reducible rfl)
        simp only [Act.put, List.setIfInBounds_toArray, List.set_cons_zero, List.set_cons_succ]
        refine wpAnyH_ready (rs := [2]) (by kernel_rfl) (by simp) ?_
        refine AllReadyH.cons (o := ?oi8003) ?hi8003 (fun K hK => ?br8003) AllReadyH.nil
        case hi8003 => (conv => lhs; simp only [List.getElem?_toArray, List.getElem?_cons_zero, List.getElem?_cons_succ]); try exact rfl
        case br8003 =>
          have x1_0 := kRS0.get (x := .slice none 0 0) 0 rfl
          have f1_0 := kRS0.frozen 0
          have x1_1 := kRS0.get (x := .slice none 0 0) 1 rfl
          have f1_1 := kRS0.frozen 1
          have lE1 := kRS0.lt
          have neX1 : w.heap.size ≠ (w.heap.size + 2) := by have := kRS0.lt; have := kX0.lt; first | exact Blk.ne_ kX0 kRS0 (by decide) | omega
          have neY1 : (w.heap.size + 1) ≠ (w.heap.size + 2) := by have := kRS0.lt; have := kY0.lt; first | exact Blk.ne_ kY0 kRS0 (by decide) | omega
          have neRF1 : (w.heap.size + 3) ≠ (w.heap.size + 2) := by have := kRS0.lt; have := kRF0.lt; first | exact Blk.ne_ kRF0 kRS0 (by decide) | omega
          have neO1 : gO ≠ (w.heap.size + 2) := by have := kRS0.lt; have := kO0.lt; first | exact Blk.ne_ kO0 kRS0 (by decide) | omega
          have neF1 : gF ≠ (w.heap.size + 2) := by have := kRS0.lt; have := kF0.lt; first | exact Blk.ne_ kF0 kRS0 (by decide) | omega
          go_simp
          refine hK.out _ _ (by exact ⟨(((kO0).far (p := ⟨(w.heap.size + 2), 0, none⟩) neO1 (.slice (some ⟨g1, 0, none⟩) 24 D2c)).far (p := ⟨(w.heap.size + 2), 1, none⟩) neO1 (.slice (some ⟨g2, 0, none⟩) 24 D3c)).get 0 rfl, (((kO0).far (p := ⟨(w.heap.size + 2), 0, none⟩) neO1 (.slice (some ⟨g1, 0, none⟩) 24 D2c)).far (p := ⟨(w.heap.size + 2), 1, none⟩) neO1 (.slice (some ⟨g2, 0, none⟩) 24 D3c)).get 1 rfl, (((kF0).far (p := ⟨(w.heap.size + 2), 0, none⟩) neF1 (.slice (some ⟨g1, 0, none⟩) 24 D2c)).far (p := ⟨(w.heap.size + 2), 1, none⟩) neF1 (.slice (some ⟨g2, 0, none⟩) 24 D3c)).get 0 rfl, (((kF0).far (p := ⟨(w.heap.size + 2), 0, none⟩) neF1 (.slice (some ⟨g1, 0, none⟩) 24 D2c)).far (p := ⟨(w.heap.size + 2), 1, none⟩) neF1 (.slice (some ⟨g2, 0, none⟩) 24 D3c)).get 1 rfl⟩) (fun _ => ?_)
          clear hK K x1_0 f1_0 x1_1 f1_1 lE1
          refine foldH ?_
          intro r1 hr1
          have bw1 : Below w.heap.size w r1 := by rw [hr1]; exact belC (belC (bw0) _ 0 (by omega) (.slice (some ⟨g1, 0, none⟩) 24 D2c)) _ 1 (by omega) (.slice (some ⟨g2, 0, none⟩) 24 D3c)
          have kX1 : Blk r1 w.heap.size 31 #[.slice A1 24 c1, .slice A2 24 c2] := by rw [hr1]; exact ((kX0).far (p := ⟨(w.heap.size + 2), 0, none⟩) neX1 (.slice (some ⟨g1, 0, none⟩) 24 D2c)).far (p := ⟨(w.heap.size + 2), 1, none⟩) neX1 (.slice (some ⟨g2, 0, none⟩) 24 D3c)
          have kY1 : Blk r1 (w.heap.size + 1) 34 #[.int .i64 sz, .slice A3 n3 c3] := by rw [hr1]; exact ((kY0).far (p := ⟨(w.heap.size + 2), 0, none⟩) neY1 (.slice (some ⟨g1, 0, none⟩) 24 D2c)).far (p := ⟨(w.heap.size + 2), 1, none⟩) neY1 (.slice (some ⟨g2, 0, none⟩) 24 D3c)
          have kRS1 : Blk r1 (w.heap.size + 2) 31 #[.slice (some ⟨g1, 0, none⟩) 24 D2c, .slice (some ⟨g2, 0, none⟩) 24 D3c] := by rw [hr1]; exact ((kRS0.put 0 (.slice (some ⟨g1, 0, none⟩) 24 D2c) #[.slice (some ⟨g1, 0, none⟩) 24 D2c, .slice none 0 0] rfl).put 1 (.slice (some ⟨g2, 0, none⟩) 24 D3c) #[.slice (some ⟨g1, 0, none⟩) 24 D2c, .slice (some ⟨g2, 0, none⟩) 24 D3c] rfl)
          have kRF1 : Blk r1 (w.heap.size + 3) 34 #[.int .i64 0, .slice none 0 0] := by rw [hr1]; exact ((kRF0).far (p := ⟨(w.heap.size + 2), 0, none⟩) neRF1 (.slice (some ⟨g1, 0, none⟩) 24 D2c)).far (p := ⟨(w.heap.size + 2), 1, none⟩) neRF1 (.slice (some ⟨g2, 0, none⟩) 24 D3c)
          have kO1 : Blk r1 gO 31 #[.slice (some ⟨g1, 0, none⟩) 24 D2c, .slice (some ⟨g2, 0, none⟩) 24 D3c] := by rw [hr1]; exact ((kO0).far (p := ⟨(w.heap.size + 2), 0, none⟩) neO1 (.slice (some ⟨g1, 0, none⟩) 24 D2c)).far (p := ⟨(w.heap.size + 2), 1, none⟩) neO1 (.slice (some ⟨g2, 0, none⟩) 24 D3c)
          have kF1 : Blk r1 gF 34 #[.int .i64 Z, .slice Ae s.2.2.length ce] := by rw [hr1]; exact ((kF0).far (p := ⟨(w.heap.size + 2), 0, none⟩) neF1 (.slice (some ⟨g1, 0, none⟩) 24 D2c)).far (p := ⟨(w.heap.size + 2), 1, none⟩) neF1 (.slice (some ⟨g2, 0, none⟩) 24 D3c)
          have oD21 : r1.ownsRow w.heap.size 4 1 (.slice (some ⟨g1, 0, none⟩) 24 D2c) 24 (BS s.1) := by rw [hr1]; exact own_farT (own_farT (oD20) kRS0 (by decide) 0 (.slice (some ⟨g1, 0, none⟩) 24 D2c)) (kRS0.put 0 (.slice (some ⟨g1, 0, none⟩) 24 D2c) #[.slice (some ⟨g1, 0, none⟩) 24 D2c, .slice none 0 0] rfl) (by decide) 1 (.slice (some ⟨g2, 0, none⟩) 24 D3c)
          have oD31 : r1.ownsRow w.heap.size 9 1 (.slice (some ⟨g2, 0, none⟩) 24 D3c) 24 (SS s.2.1) := by rw [hr1]; exact own_farT (own_farT (oD30) kRS0 (by decide) 0 (.slice (some ⟨g1, 0, none⟩) 24 D2c)) (kRS0.put 0 (.slice (some ⟨g1, 0, none⟩) 24 D2c) #[.slice (some ⟨g1, 0, none⟩) 24 D2c, .slice none 0 0] rfl) (by decide) 1 (.slice (some ⟨g2, 0, none⟩) 24 D3c)
          have oD41 : r1.ownsRow w.heap.size 76 3 (.slice Ae s.2.2.length ce) s.2.2.length (XS s.2.2) := by rw [hr1]; exact own_farT (own_farT (oD40) kRS0 (by decide) 0 (.slice (some ⟨g1, 0, none⟩) 24 D2c)) (kRS0.put 0 (.slice (some ⟨g1, 0, none⟩) 24 D2c) #[.slice (some ⟨g1, 0, none⟩) 24 D2c, .slice none 0 0] rfl) (by decide) 1 (.slice (some ⟨g2, 0, none⟩) 24 D3c)
          clear hr1
          refine wpAnyH_ready (rs := [3]) (by kernel_rfl) (by simp) ?_
          refine AllReadyH.cons (o := ?oi8004) ?hi8004 (fun K hK => ?br8004) AllReadyH.nil
          case hi8004 => (conv => lhs; simp only [List.getElem?_toArray, List.getElem?_cons_zero, List.getElem?_cons_succ]); try exact rfl
          case br8004 =>
            have x2_0 := kRF1.get (x := .int .i64 0) 0 rfl
            have f2_0 := kRF1.frozen 0
            have x2_1 := kRF1.get (x := .slice none 0 0) 1 rfl
            have f2_1 := kRF1.frozen 1
            have lE2 := kRF1.lt
            have neX2 : w.heap.size ≠ (w.heap.size + 3) := by have := kRF1.lt; have := kX1.lt; first | exact Blk.ne_ kX1 kRF1 (by decide) | omega
            have neY2 : (w.heap.size + 1) ≠ (w.heap.size + 3) := by have := kRF1.lt; have := kY1.lt; first | exact Blk.ne_ kY1 kRF1 (by decide) | omega
            have neRS2 : (w.heap.size + 2) ≠ (w.heap.size + 3) := by have := kRF1.lt; have := kRS1.lt; first | exact Blk.ne_ kRS1 kRF1 (by decide) | omega
            have neO2 : gO ≠ (w.heap.size + 3) := by have := kRF1.lt; have := kO1.lt; first | exact Blk.ne_ kO1 kRF1 (by decide) | omega
            have neF2 : gF ≠ (w.heap.size + 3) := by have := kRF1.lt; have := kF1.lt; first | exact Blk.ne_ kF1 kRF1 (by decide) | omega
            go_simp
            refine hK.out _ _ (by exact ⟨(((kO1).far (p := ⟨(w.heap.size + 3), 0, none⟩) neO2 (.int .i64 Z)).far (p := ⟨(w.heap.size + 3), 1, none⟩) neO2 (.slice Ae s.2.2.length ce)).get 0 rfl, (((kO1).far (p := ⟨(w.heap.size + 3), 0, none⟩) neO2 (.int .i64 Z)).far (p := ⟨(w.heap.size + 3), 1, none⟩) neO2 (.slice Ae s.2.2.length ce)).get 1 rfl, (((kF1).far (p := ⟨(w.heap.size + 3), 0, none⟩) neF2 (.int .i64 Z)).far (p := ⟨(w.heap.size + 3), 1, none⟩) neF2 (.slice Ae s.2.2.length ce)).get 0 rfl, (((kF1).far (p := ⟨(w.heap.size + 3), 0, none⟩) neF2 (.int .i64 Z)).far (p := ⟨(w.heap.size + 3), 1, none⟩) neF2 (.slice Ae s.2.2.length ce)).get 1 rfl⟩) (fun _ => ?_)
            clear hK K x2_0 f2_0 x2_1 f2_1 lE2
            refine foldH ?_
            intro r2 hr2
            have bw2 : Below w.heap.size w r2 := by rw [hr2]; exact belC (belC (bw1) _ 0 (by omega) (.int .i64 Z)) _ 1 (by omega) (.slice Ae s.2.2.length ce)
            have kX2 : Blk r2 w.heap.size 31 #[.slice A1 24 c1, .slice A2 24 c2] := by rw [hr2]; exact ((kX1).far (p := ⟨(w.heap.size + 3), 0, none⟩) neX2 (.int .i64 Z)).far (p := ⟨(w.heap.size + 3), 1, none⟩) neX2 (.slice Ae s.2.2.length ce)
            have kY2 : Blk r2 (w.heap.size + 1) 34 #[.int .i64 sz, .slice A3 n3 c3] := by rw [hr2]; exact ((kY1).far (p := ⟨(w.heap.size + 3), 0, none⟩) neY2 (.int .i64 Z)).far (p := ⟨(w.heap.size + 3), 1, none⟩) neY2 (.slice Ae s.2.2.length ce)
            have kRS2 : Blk r2 (w.heap.size + 2) 31 #[.slice (some ⟨g1, 0, none⟩) 24 D2c, .slice (some ⟨g2, 0, none⟩) 24 D3c] := by rw [hr2]; exact ((kRS1).far (p := ⟨(w.heap.size + 3), 0, none⟩) neRS2 (.int .i64 Z)).far (p := ⟨(w.heap.size + 3), 1, none⟩) neRS2 (.slice Ae s.2.2.length ce)
            have kRF2 : Blk r2 (w.heap.size + 3) 34 #[.int .i64 Z, .slice Ae s.2.2.length ce] := by rw [hr2]; exact ((kRF1.put 0 (.int .i64 Z) #[.int .i64 Z, .slice none 0 0] rfl).put 1 (.slice Ae s.2.2.length ce) #[.int .i64 Z, .slice Ae s.2.2.length ce] rfl)
            have kO2 : Blk r2 gO 31 #[.slice (some ⟨g1, 0, none⟩) 24 D2c, .slice (some ⟨g2, 0, none⟩) 24 D3c] := by rw [hr2]; exact ((kO1).far (p := ⟨(w.heap.size + 3), 0, none⟩) neO2 (.int .i64 Z)).far (p := ⟨(w.heap.size + 3), 1, none⟩) neO2 (.slice Ae s.2.2.length ce)
            have kF2 : Blk r2 gF 34 #[.int .i64 Z, .slice Ae s.2.2.length ce] := by rw [hr2]; exact ((kF1).far (p := ⟨(w.heap.size + 3), 0, none⟩) neF2 (.int .i64 Z)).far (p := ⟨(w.heap.size + 3), 1, none⟩) neF2 (.slice Ae s.2.2.length ce)
            have oD22 : r2.ownsRow w.heap.size 4 1 (.slice (some ⟨g1, 0, none⟩) 24 D2c) 24 (BS s.1) := by rw [hr2]; exact own_farT (own_farT (oD21) kRF1 (by decide) 0 (.int .i64 Z)) (kRF1.put 0 (.int .i64 Z) #[.int .i64 Z, .slice none 0 0] rfl) (by decide) 1 (.slice Ae s.2.2.length ce)
            have oD32 : r2.ownsRow w.heap.size 9 1 (.slice (some ⟨g2, 0, none⟩) 24 D3c) 24 (SS s.2.1) := by rw [hr2]; exact own_farT (own_farT (oD31) kRF1 (by decide) 0 (.int .i64 Z)) (kRF1.put 0 (.int .i64 Z) #[.int .i64 Z, .slice none 0 0] rfl) (by decide) 1 (.slice Ae s.2.2.length ce)
            have oD42 : r2.ownsRow w.heap.size 76 3 (.slice Ae s.2.2.length ce) s.2.2.length (XS s.2.2) := by rw [hr2]; exact own_farT (own_farT (oD41) kRF1 (by decide) 0 (.int .i64 Z)) (kRF1.put 0 (.int .i64 Z) #[.int .i64 Z, .slice none 0 0] rfl) (by decide) 1 (.slice Ae s.2.2.length ce)
            clear hr2
            refine wpAnyH_take (i := 4) (oi := ?oi8005) (v := ?v8005) ?hi8005 ?hs8005 ?hf8005 ?hr8005 ?hQ8005 ?hy8005 ?hS8005 ?hrest8005
            case hi8005 => (conv => lhs; simp only [List.getElem?_toArray, List.getElem?_cons_zero, List.getElem?_cons_succ]); try exact rfl
            case hs8005 => kernel_rfl
            case hf8005 => kernel_rfl
            case hr8005 => kernel_rfl
            case hQ8005 => exact fun _ _ _ h => h
            case hS8005 => exact ⟨(kO2).get 0 rfl, (kO2).get 1 rfl, (kF2).get 0 rfl, (kF2).get 1 rfl⟩
            case hy8005 => refine Or.inl ⟨by rfl, ?_⟩; intro w hSw; (try dsimp only at hSw); go_simp; (try with_reducible rfl)
            simp only [Act.put, List.setIfInBounds_toArray, List.set_cons_zero, List.set_cons_succ]
            refine wpAnyH_done (by kernel_rfl) ?_ _
            have r0f := kRS2.get (x := .slice (some ⟨g1, 0, none⟩) 24 D2c) 0 rfl
            have r1f := kRS2.get (x := .slice (some ⟨g2, 0, none⟩) 24 D3c) 1 rfl
            have r2f := kRF2.get (x := .int .i64 Z) 0 rfl
            have r3f := kRF2.get (x := .slice Ae s.2.2.length ce) 1 rfl
            have OO1 := Lib.hid (own_eqn oD22 HI.out.b.symm)
            have OO2 := Lib.hid (own_eqn oD32 HI.out.d.symm)
            have OO3 := Lib.hid (oD42)
            have lF1 := kRS2.lt
            have lF2 := kRF2.lt
            have BE := bw2
            clear kX2 kY2 kRS2 kRF2 kO2 kF2 oD22 oD32 oD42
            go_wp2
            obtain ⟨rfl, rfl, rfl⟩ := HPe.out
            exact bodyPost_ret (v := .tuple #[.agg #[.slice (some ⟨g1, 0, none⟩) 24 D2c, .slice (some ⟨g2, 0, none⟩) 24 D3c], .agg #[.int .i64 Z, .slice Ae s.2.2.length ce], .bool true]) (by simp [results, Try.results9, go_sem, r0f, r1f, r2f, r3f]) rfl (wrPost_of (rfl) OO1.out OO2.out OO3.out BE)

end Go.Proofs.Ytajgenjfhcapjaa
