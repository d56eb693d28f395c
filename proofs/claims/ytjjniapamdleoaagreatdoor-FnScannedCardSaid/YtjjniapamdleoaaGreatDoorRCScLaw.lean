/- The law FnScanned, walked: who goes through a directory while others make and take away names in it meets each name that stays just once, and none that never was. -/
import Derived.Test.YtjjniapamdleoaaGreatDoorRCScW
namespace Go.Proofs.YtjjniapamdleoaaGreatDoor
open Go Go.RowKit
set_option maxHeartbeats 16000000
set_option maxRecDepth 100000

theorem mem4_onniibbw {G P : (VolD) -> (Nat) -> (Nat) -> (Int) -> (Int) -> (ByteArray) -> (ByteArray) -> (World) -> Prop} {R : Prop} (use : (∀ (x0 : VolD) (x1 : Nat) (x2 : Nat) (x3 : Int) (x4 : Int) (x5 : ByteArray) (x6 : ByteArray) (x7 : World), P x0 x1 x2 x3 x4 x5 x6 x7 -> G x0 x1 x2 x3 x4 x5 x6 x7) -> R) (key : ∀ (x0 : VolD) (x1 : Nat) (x2 : Nat) (x3 : Int) (x4 : Int) (x5 : ByteArray) (x6 : ByteArray) (x7 : World), P x0 x1 x2 x3 x4 x5 x6 x7 -> G x0 x1 x2 x3 x4 x5 x6 x7) : R := use key
theorem sp_rootC : spB ⟨#[47]⟩ = ([], true) := by
 have h1 : inI (⟨#[47]⟩ : ByteArray).size 1 200 = true := by rw [inI_true]; constructor <;> decide
 unfold spB
 rw [if_pos ⟨h1, rfl⟩]
 rfl
theorem ScS.cur {V : VolD} {D : List EntD} (h : ScS V D) : curP V ⟨#[47]⟩ = (⟨1, -1, -1⟩, 0) := by
 have hw : walkP V (spB ⟨#[47]⟩) = (1, 0) := by
  rw [sp_rootC, walk_ok rfl (volOkB_iff.2 h.ok)]
  rfl
 obtain ⟨h0, hr⟩ := h.head
 unfold curP
 rw [hw, if_neg (by simp)]
 show (match V.xs[(plc V.xs 1).toNat]? with | none => ((⟨0, 0, 0⟩ : CurD), (4 : Int)) | some x => if x.kd = 2 then (⟨1, -1, -1⟩, 0) else (⟨0, 0, 0⟩, 4)) = _
 rw [h.plc1, Int.toNat_natCast, List.getElem?_eq_getElem h0, hr]
 rfl
theorem ScS.list {V : VolD} {D : List EntD} (h : ScS V D) : listW V ⟨#[47]⟩ = (namesOf D, 0) := by
 obtain ⟨h0, hr⟩ := h.head
 have h1 := listW_ok (V := V) (s := ⟨#[47]⟩) h0 (by rw [h.cur]) (by rw [h.cur]; exact h.plc1)
 rw [h1, hr]
 rfl
theorem nms_pick {x : Int} (h0 : 0 <= x) : ∃ (k : Nat) (nm : ByteArray), k < 7 /\ x.tmod 7 = (k : Int) /\ nmC[k]? = some (.string nm) /\ nameOkB nm = true /\ spB (⟨#[47]⟩ ++ nm) = ([nm], true) /\ nm.size <= 24 := by
 have h7 : nms.length = 7 := rfl
 have hk : (x % 7).toNat < nms.length := by omega
 refine ⟨(x % 7).toNat, nms[(x % 7).toNat], by omega, ?_, nmC_get hk, nms_ok _ (List.getElem_mem hk), nms_sp (List.getElem_mem hk), name_le (nms_ok _ (List.getElem_mem hk))⟩
 rw [Int.tmod_eq_emod_of_nonneg h0]
 omega
noncomputable def keepF (r0 : Int) (n a : ByteArray) : Bool := r0 != 0 || !alikeB a n
theorem un_some {V V' : VolD} {D : List EntD} {n : ByteArray} {r : Int} {all ever seen : List ByteArray} {x y : Int} (hS : ScS V D) (hI : ScI D all ever seen x y) (h : UnQ V D n r V') : ∃ D', ScS V' D' /\ ScI D' (all.filter (keepF r n)) ever seen x y := by
 rcases h with ⟨h0, rfl⟩ | ⟨rfl, D', h1, h2, h3⟩
 ·refine ⟨D, hS, ?_⟩
  have hf : all.filter (keepF r n) = all := List.filter_eq_self.2 fun a _ => by simp [keepF, h0]
  rw [hf]
  exact hI
 ·refine ⟨D', h1, ?_⟩
  have hf : keepF 0 n = fun a => !alikeB a n := by funext a; simp [keepF]
  rw [hf]
  exact hI.un h2 h3
theorem all_sz {V : VolD} {D : List EntD} {all ever seen : List ByteArray} {x y : Int} (hS : ScS V D) (hI : ScI D all ever seen x y) : ∀ a ∈ all, a.size <= 24 := by
 intro a ha
 obtain ⟨e, he, rfl, _⟩ := hI.all_ a ha
 have h1 := (dirOk_pw.1 hS.dir).2.1 e he
 unfold entOkB at h1
 simp only [Bool.and_eq_true] at h1
 exact name_le h1.1
theorem filter_step {p : ByteArray -> Bool} {l : List ByteArray} {k : Nat} (hk : k < l.length) : (l.take (k + 1)).filter p = (l.take k).filter p ++ if p l[k] = true then [l[k]] else [] := by
 rw [List.take_succ_eq_append_getElem hk, List.filter_append]
 congr 1
 by_cases h : p l[k] = true
 ·simp [h]
 ·simp [h]
theorem cur_next (v : Value) (V : VolD) (D : List EntD) (h : ScS V D) (x y : Int) (w : World) (hT : Tab w) (hC : IsVolC w v V) :
  Calls Tryz.prog 42 #[v, .agg #[.int .i64 1, .int .i64 x, .int .i64 y]] w fun e w' => e = .returned (.tuple #[.agg #[.int .i64 1, .int .i64 (nxC D x y).1, .int .i64 (nxC D x y).2.1], .string (nxC D x y).2.2.1, .int .i64 (nxC D x y).2.2.2]) /\ Below w.heap.size w w' := by
 obtain ⟨h0, hr⟩ := h.head
 have he : V.xs[0].es = D := by rw [hr]; rfl
 have h1 := curNext_impl v V h.sz h.ok 1 0 h0 h.plc1 (by rw [hr]; rfl) x y w hT hC
 rw [he] at h1
 exact h1
theorem tl_ne {a b : ByteArray} (h : ¬ a = b) : (a.toList == b.toList) = false := by
 rw [beq_eq_false_iff_ne]
 intro e
 rw [ByteArray.toList_eq, ByteArray.toList_eq] at e
 exact h (bytes_ext e)
theorem mk_some {V V' : VolD} {D : List EntD} {n : ByteArray} {r : Int} (hS : ScS V D) (h : CrQ V D n r V') : ∃ D', ScS V' D' := by
 rcases h with ⟨_, rfl⟩ | ⟨_, D', h, _⟩
 ·exact ⟨D, hS⟩
 ·exact ⟨D', h⟩
theorem bigL_any (A : Option Addr) (n cp : Nat) (w : World) :
  Calls Tryz.prog 8 #[.slice A n cp] w fun e w' => e = .returned (.bool (decide (1048576 < n))) /\ Below w.heap.size w w' := by
 by_cases h : 1048576 < n
 ·have h1 : (n : Int) > 1048576 := by omega
  have hd : decide (1048576 < n) = true := by simpa using h
  have Hd := Lib.hid hd
  go_enter Tryz.func8, Tryz.ntmps8
  go_wp2
  go_ret
  exact ⟨by first | rfl | (rw [Hd.out]; rfl), bel0 w⟩
 ·have h1 : ¬ ((n : Int) > 1048576) := by omega
  have hd : decide (1048576 < n) = false := by simpa using h
  have Hd := Lib.hid hd
  go_enter Tryz.func8, Tryz.ntmps8
  go_wp2
  go_ret
  exact ⟨by first | rfl | (rw [Hd.out]; rfl), bel0 w⟩

/-- What a code has at a place: the same whenever it is asked. -/
theorem at_same (A : Option Addr) (n cp : Nat) (bs : List UInt8) (hn : n <= 1048576) (i : Nat) (hi : i <= 1000) (w : World) (hr : Reads w w.heap.size 1 A n (B8 bs)) :
  ∃ x : Int, 0 <= x /\ x <= 255 /\ ∀ W, Below w.heap.size w W -> Calls Tryz.prog 39 #[.slice A n cp, .int .i64 i] W fun e w' => e = .returned (.int .i64 x) /\ w' = W := by
 by_cases hlt : i < n
 ·have hI : (i : Int) < (n : Int) := by omega
  have q0 : (0 : Int) <= (i : Int) := by omega
  obtain ⟨b, ad, rfl, z0⟩ : ∃ (b : UInt8) (ad : Addr), A = some ad /\ w.cell? (ad.add i) = some (.int .u8 b.toNat) := by
   obtain ⟨ad, hA, _, hc⟩ := hr.2 (by omega)
   have hlen : i < bs.length := by have := hr.1; simp [B8] at this; omega
   exact ⟨bs[i], ad, hA, hc i _ (by simp [B8, hlen])⟩
  have hb := b.toNat_lt
  have wb : IntKind.i64.wrap (b.toNat : Int) = (b.toNat : Int) := by rw [IntKind.wrap_i64]; omega
  refine ⟨(b.toNat : Int), by omega, by omega, fun W hW => ?_⟩
  have z1 := keep1 hW z0
  clear z0 hr
  go_enter Tryz.func39, Tryz.ntmps39
  go_wp2
  go_ret
  exact ⟨rfl, rfl⟩
 ·have hI : ¬ ((i : Int) < (n : Int)) := by omega
  have w1 : IntKind.i64.wrap ((i : Int) * 37) = (i : Int) * 37 := by rw [IntKind.wrap_i64]; omega
  have w2 : IntKind.i64.wrap ((n : Int) * 11) = (n : Int) * 11 := by rw [IntKind.wrap_i64]; omega
  have w3 : IntKind.i64.wrap ((i : Int) * 37 + (n : Int) * 11) = (i : Int) * 37 + (n : Int) * 11 := by rw [IntKind.wrap_i64]; omega
  have mt : ((i : Int) * 37 + (n : Int) * 11).tmod 256 = ((i : Int) * 37 + (n : Int) * 11) % 256 := by rw [Int.tmod_eq_emod_of_nonneg (by omega)]
  refine ⟨((i : Int) * 37 + (n : Int) * 11) % 256, by omega, by omega, fun W _ => ?_⟩
  clear hr
  go_enter Tryz.func39, Tryz.ntmps39
  go_wp2
  go_ret
  exact ⟨rfl, rfl⟩

theorem law_fnScanned (A : Option Addr) (n cp : Nat) (bt : List UInt8) (w : World) (hT : Tab w) (hr : Reads w w.heap.size 1 A n (B8 bt)) :
  Calls Tryz.prog 7 #[.slice A n cp] w fun e w' => e = .returned (.bool true) /\ Below w.heap.size w w' := by
 have HT := Lib.hid hT
 have Hr := Lib.hid hr
 clear hT hr
 by_cases hbig : 1048576 < n
 ·have Hd := Lib.hid (show decide (1048576 < n) = true by simpa using hbig)
  go_enter Tryz.func7, Tryz.ntmps7
  go_wp2_with fail
  refine (bigL_any A n cp w).mono ?_
  rintro e w1 ⟨rfl, hb1⟩
  rw [Hd.out]
  go_wp2
  go_ret
  exact ⟨rfl, hb1⟩
 have Hd := Lib.hid (show decide (1048576 < n) = false by simpa using hbig)
 have Hat := Lib.hid (fun (q : Nat) (hq : q <= 1000) => at_same A n cp bt (by omega) q hq w Hr.out)
 go_enter Tryz.func7, Tryz.ntmps7
 go_wp2_with fail
 refine (bigL_any A n cp w).mono ?_
 rintro e w1 ⟨rfl, hb1⟩
 rw [Hd.out]
 go_wp2_with fail
 refine (newVol_any w1).mono ?_
 rintro e w2 ⟨v, rfl, ⟨g2, c2, us2, rfl, y2⟩, hb2⟩
 have B2 := belN hb1 hb2
 clear hb1 hb2
 obtain ⟨pv, hpv⟩ : ∃ q, w2.heap.size = q := ⟨_, rfl⟩
 obtain ⟨w3, hw3⟩ : ∃ W, w2.alloc (.cells #[.int .i64 vol0.nx, .slice (some ⟨g2, 0, none⟩) vol0.xs.length c2] 26) = W := ⟨_, rfl⟩
 have b3 : Below w2.heap.size w2 w3 := by rw [<- hw3]; exact belA (bel0 w2) _
 have kP3 : Blk w3 pv 26 #[.int .i64 vol0.nx, .slice (some ⟨g2, 0, none⟩) vol0.xs.length c2] := by rw [<- hw3, <- hpv]; exact Blk.new' _ _ _ _ rfl
 have y3 := (y2.below b3).more (Nat.zero_le _)
 have B3 := belN B2 b3
 have hpv0 : w.heap.size <= pv := by have := B2.size; omega
 have Hw3 := Lib.hid hw3
 have Hpv := Lib.hid hpv
 clear hw3 hpv b3 y2 B2
 go_upto_region 4 with fail
 try rw [Hpv.out]
 rw [Hw3.out]
 clear Hw3 Hpv
 obtain ⟨gN, hgN⟩ : ∃ q, w3.heap.size = q := ⟨_, rfl⟩
 obtain ⟨w4, hw4⟩ : ∃ W, w3.alloc (.cells nmC 9) = W := ⟨_, rfl⟩
 have b4 : Below w3.heap.size w3 w4 := by rw [<- hw4]; exact belA (bel0 w3) _
 have kN4 : Blk w4 gN 9 nmC := by rw [<- hw4, <- hgN]; exact Blk.new' _ _ _ _ rfl
 have kP4 := kP3.below b4 kP3.lt
 have y4 := y3.below b4
 have B4 := belN B3 b4
 have hgN1 : gN + 1 = w4.heap.size := by rw [<- hw4]; simp; omega
 have hpv1 : pv < gN := by have := kP3.lt; omega
 have Hw4 := Lib.hid hw4
 have HgN := Lib.hid hgN
 clear hw4 hgN b4 y3 B3 kP3
 go_upto_region 5 with fail
 try rw [HgN.out]
 rw [Hw4.out]
 clear Hw4 HgN
 obtain ⟨lo, hlo⟩ : ∃ q, w4.heap.size = q := ⟨_, rfl⟩
 have hlo1 : gN + 1 = lo := by omega
 have hlow : w.heap.size <= lo := by omega
 have HgN1 := Lib.hid hgN1
 have Hlo := Lib.hid hlo
 have Hlo1 := Lib.hid hlo1
 clear hgN1 hlo hlo1
 have hgNl : gN < lo := by have := Hlo1.out; omega
 have hlo4 : lo <= w4.heap.size := by have := Hlo.out; omega
 go_wp2
 go_loopw [5] (fun i wr => ∃ q : Nat, q <= 4 /\ i = .int .i64 q /\ ∃ (V : VolD) (D : List EntD) (g c : Nat), Hid (ScS V D) /\ Hid (Blk wr pv 26 #[.int .i64 V.nx, .slice (some ⟨g, 0, none⟩) V.xs.length c]) /\ Hid (∃ us, YR wr 0 g c V.xs us) /\ Hid (Blk wr gN 9 nmC) /\ Hid (Below w.heap.size w wr) /\ Hid (lo <= wr.heap.size)) (fun i _ => 4 - (intOf i).toNat)
 case atStart => exact ⟨0, Nat.zero_le _, rfl, vol0, [], g2, c2, Lib.hid ScS.zero, Lib.hid kP4, Lib.hid ⟨us2, y4⟩, Lib.hid kN4, Lib.hid B4, Lib.hid hlo4⟩
 case round =>
 clear kP4 kN4 B4 y4 hlo4
 obtain ⟨q, hq, rfl, V, D, g, c, hS, hP, hY, hN, hB, hl⟩ := hrel
 by_cases hlt : q < 4
 ·have qI : (q : Int) < 4 := by omega
  obtain ⟨x, x0, x1, hat⟩ := Hat.out q (by omega)
  have Hax := Lib.hid hat
  obtain ⟨k, nm, hk7, hkx, hnC, hnm⟩ := nms_pick x0
  have HnC := Lib.hid hnC
  have Hnm := Lib.hid hnm
  clear hnC hnm hat
  have k0 : (0 : Int) <= (k : Int) := by omega
  have k7 : (k : Int) < 7 := by omega
  have u1 : ¬ 9223372036854775807 < 1 + nm.size := by have := Hnm.out.2.2; omega
  obtain ⟨g0, hg0⟩ : ∃ g0, g0 = wr.heap.size := ⟨_, rfl⟩
  have hw0 : w.heap.size <= g0 := by have := hB.out.size; omega
  have hgl : lo <= g0 := by have := hl.out; omega
  obtain ⟨wo, hwo⟩ : ∃ W, W = wr := ⟨_, rfl⟩
  subst hwo
  obtain ⟨ps, hps⟩ : ∃ t : ByteArray, ⟨#[47]⟩ ++ nm = t := ⟨_, rfl⟩
  have Hsz : Hid (ps.size <= 2000000) := Lib.hid (by rw [<- hps, ByteArray.size_append]; have h1 : (⟨#[47]⟩ : ByteArray).size = 1 := rfl; have := Hnm.out.2.2; omega)
  have Hsp : Hid (spB ps = ([nm], true)) := Lib.hid (by rw [<- hps]; exact Hnm.out.2.1)
  have Hps := Lib.hid hps
  clear hps
  go_upto_region 8 with fail
  refine wp_region_held_drew (S := fun w' => w'.cell? ⟨gN, k, none⟩ = some (.string nm)) (by kernel_rfl) (by exact Blk.get hN.out k HnC.out) (fun hHeld => ?_)
  clear hHeld
  refine foldH ?_
  intro r hr0
  have bw : wo.grownBy r (some g0) := by rw [hr0]; exact gb_below (grown_refl _ _) (bel0 wo).drew
  have kP : Blk r pv 26 #[.int .i64 V.nx, .slice (some ⟨g, 0, none⟩) V.xs.length c] := by rw [hr0]; exact hP.out.drew
  have pY : (∃ us, YR r 0 g c V.xs us) := by rw [hr0]; exact (YRe.below hY.out (bel0 wo).drew)
  have pN : Blk r gN 9 nmC := by rw [hr0]; exact hN.out.drew
  clear hr0
  apply mem4_onniibbw (P := fun V2 c9 g9 r0 r1 r2 r3 q => wo.grownBy q (some g0) /\ Blk q pv 26 #[.int .i64 V.nx, .slice (some ⟨g, 0, none⟩) V.xs.length c] /\ Blk q gN 9 nmC /\ (∃ us, YR q 0 g9 c9 V2.xs us) /\ Hid (CrQ V D nm r0 V2))
  case use =>
   intro key_sc_0_4_9
   apply mem4_w (P := fun  q => wo.grownBy q (some g0) /\ Blk q pv 26 #[.int .i64 V.nx, .slice (some ⟨g, 0, none⟩) V.xs.length c] /\ Blk q gN 9 nmC /\ (∃ us, YR q 0 g c V.xs us))
   case use =>
    intro key_sc_0_4
    apply mem4_w (P := fun  q => wo.grownBy q (some g0) /\ Blk q pv 26 #[.int .i64 V.nx, .slice (some ⟨g, 0, none⟩) V.xs.length c] /\ Blk q gN 9 nmC /\ (∃ us, YR q 0 g c V.xs us))
    case use =>
     intro key_sc_4
     apply mem4_w (P := fun  q => wo.grownBy q (some g0) /\ Blk q pv 26 #[.int .i64 V.nx, .slice (some ⟨g, 0, none⟩) V.xs.length c] /\ Blk q gN 9 nmC /\ (∃ us, YR q 0 g c V.xs us))
     case use =>
      intro key_sc_0
      refine tkW_ 1 ?_ (hS := by exact Blk.get pN k HnC.out)
      refine tkW_ 2 ?_ (hS := by exact Blk.get pN k HnC.out)
      refine tkW_ 3 ?_ (hS := by exact Blk.get pN k HnC.out)
      refine wpAnyH_ready (rs := [0, 4]) (by kernel_rfl) (by simp) ?_
      refine AllReadyH.cons (o := ?oi90004) ?hi90004 (fun K hK => ?br90004) (AllReadyH.cons (o := ?oi90005) ?hi90005 (fun K hK => ?br90005) AllReadyH.nil)
      case hi90004 => (conv => lhs; simp only [List.getElem?_toArray, List.getElem?_cons_zero]); try exact rfl
      case hi90005 => (conv => lhs; simp only [gT_, gZ_, gS_]); try exact rfl
      case br90004 =>
       obtain ⟨x_0, x_1⟩ := kP.g2
       go_simp
       refine hK.out _ _ (by exact Blk.get pN k HnC.out) (fun _ => ?_)
       clear hK K
       try simp only [Act.put, pT_, pZ_, pS_]
       exact key_sc_0  r ⟨bw, kP, pN, pY⟩
      case br90005 =>
       go_simp
       go_at_call 39
       refine ((Hax.out _ (belG hB.out bw hw0)).mono (fun e w' h => (⟨h.1, by rw [h.2]; exact bel0 _⟩ : e = .returned (.int .i64 x) /\ Below r.heap.size r w'))).mono ?_
       rintro e q ⟨rfl, hb⟩
       have bw2 := gb_below bw hb
       have kP2 := kP.below hb kP.lt
       have pY2 : (∃ us, YR q 0 g c V.xs us) := (YRe.below pY hb)
       have pN2 : Blk q gN 9 nmC := (pN.below hb pN.lt)
       refine hK.out _ _ (by exact Blk.get pN2 k HnC.out) (fun _ => ?_)
       clear hK K
       try simp only [Act.put, pT_, pZ_, pS_]
       refine tkW_ 5 ?_ (hS := by exact Blk.get pN2 k HnC.out)
       refine tkW_ 6 ?_ (hS := by exact Blk.get pN2 k HnC.out)
       refine tkW_ 7 ?_ (hS := by exact Blk.get pN2 k HnC.out)
       refine tkW_ 8 ?_ (hS := by exact Blk.get pN2 k HnC.out)
       exact key_sc_4  q ⟨bw2, kP2, pN2, pY2⟩
     case key =>
      rintro  r ⟨bw, kP, pN, pY⟩
      try dsimp only
      refine rd1_ 4 (fun K hK => ?br90010)
      case br90010 =>
       go_simp
       go_at_call 39
       refine ((Hax.out _ (belG hB.out bw hw0)).mono (fun e w' h => (⟨h.1, by rw [h.2]; exact bel0 _⟩ : e = .returned (.int .i64 x) /\ Below r.heap.size r w'))).mono ?_
       rintro e q ⟨rfl, hb⟩
       have bw2 := gb_below bw hb
       have kP2 := kP.below hb kP.lt
       have pY2 : (∃ us, YR q 0 g c V.xs us) := (YRe.below pY hb)
       have pN2 : Blk q gN 9 nmC := (pN.below hb pN.lt)
       refine hK.out _ _ (by exact Blk.get pN2 k HnC.out) (fun _ => ?_)
       clear hK K
       try simp only [Act.put, pT_, pZ_, pS_]
       refine tkW_ 5 ?_ (hS := by exact Blk.get pN2 k HnC.out)
       refine tkW_ 6 ?_ (hS := by exact Blk.get pN2 k HnC.out)
       refine tkW_ 7 ?_ (hS := by exact Blk.get pN2 k HnC.out)
       refine tkW_ 8 ?_ (hS := by exact Blk.get pN2 k HnC.out)
       exact key_sc_0_4  q ⟨bw2, kP2, pN2, pY2⟩
    case key =>
     rintro  r ⟨bw, kP, pN, pY⟩
     try dsimp only
     refine wpAnyH_ready (rs := [0]) (by kernel_rfl) (by simp) ?_
     refine AllReadyH.cons (o := ?oi90015) ?hi90015 (fun K hK => ?br90015) AllReadyH.nil
     case hi90015 => (conv => lhs; simp only [List.getElem?_toArray, List.getElem?_cons_zero]); try exact rfl
     case br90015 =>
      obtain ⟨x_0, x_1⟩ := kP.g2
      go_simp
      refine hK.out _ _ (by exact Blk.get pN k HnC.out) (fun _ => ?_)
      clear hK K
      try simp only [Act.put, pT_, pZ_, pS_]
      exact key_sc_0_4  r ⟨bw, kP, pN, pY⟩
   case key =>
    rintro  r ⟨bw, kP, pN, pY⟩
    try dsimp only
    refine rd1_ 9 (fun K hK => ?br90016)
    case br90016 =>
     go_simp
     go_at_call 34
     rw [Hps.out]
     refine (pathDo_mk _ V D hS.out ps nm Hsz.out Hsp.out Hnm.out.1 _ (YRe.isC pY V.nx)).mono ?_
     rintro e q ⟨⟨V2, g9, c9, r0, r1, r2, r3, rfl, hQr, us9, hy9⟩, hb⟩
     have bw2 := gb_below bw hb
     have kP2 := kP.below hb kP.lt
     have pN2 : Blk q gN 9 nmC := (pN.below hb pN.lt)
     have pZ2 : ∃ us, YR q 0 g9 c9 V2.xs us := ⟨us9, hy9.more (Nat.zero_le _)⟩
     have hQ9 : Hid (CrQ V D nm r0 V2) := Lib.hid hQr
     refine hK.out _ _ (by exact Blk.get pN2 k HnC.out) (fun _ => ?_)
     clear hK K
     try simp only [Act.put, pT_, pZ_, pS_]
     refine tkW_ 10 ?_ (hS := by exact Blk.get pN2 k HnC.out)
     refine tkW_ 11 ?_ (hS := by exact Blk.get pN2 k HnC.out)
     refine tkW_ 12 ?_ (hS := by exact Blk.get pN2 k HnC.out)
     exact key_sc_0_4_9 V2 c9 g9 r0 r1 r2 r3 q ⟨bw2, kP2, pN2, pZ2, hQ9⟩
  case key =>
   rintro V2 c9 g9 r0 r1 r2 r3 r ⟨bw, kP, pN, pZ, hQ9⟩
   try dsimp only
   refine rd1_ 13 (fun K hK => ?br90020)
   case br90020 =>
    obtain ⟨us8, hZ⟩ := pZ
    have hne : gN ≠ pv := by omega
    have kP9 := (kP.put 0 (.int .i64 V2.nx) #[.int .i64 V2.nx, .slice (some ⟨g, 0, none⟩) V.xs.length c] rfl).put 1 (.slice (some ⟨g9, 0, none⟩) V2.xs.length c9) #[.int .i64 V2.nx, .slice (some ⟨g9, 0, none⟩) V2.xs.length c9] rfl
    have kN9 := (pN.far (p := ⟨pv, 0, none⟩) hne (.int .i64 V2.nx)).far (p := ⟨pv, 1, none⟩) hne (.slice (some ⟨g9, 0, none⟩) V2.xs.length c9)
    have Z9 := (hZ.farV kP 0 (.int .i64 V2.nx)).farV (kP.put 0 (.int .i64 V2.nx) #[.int .i64 V2.nx, .slice (some ⟨g, 0, none⟩) V.xs.length c] rfl) 1 (.slice (some ⟨g9, 0, none⟩) V2.xs.length c9)
    have B9 := belG hB.out bw hw0
    have B9' := belC (belC B9 pv 0 hpv0 (.int .i64 V2.nx)) pv 1 hpv0 (.slice (some ⟨g9, 0, none⟩) V2.xs.length c9)
    have hl9 : lo <= r.heap.size := Nat.le_trans hl.out bw.size
    have hl9' : lo <= ((r.setCell ⟨pv, 0, none⟩ (.int .i64 V2.nx)).setCell ⟨pv, 1, none⟩ (.slice (some ⟨g9, 0, none⟩) V2.xs.length c9)).heap.size := by simpa using hl9
    obtain ⟨w19, hw19⟩ : ∃ W, (r.setCell ⟨pv, 0, none⟩ (.int .i64 V2.nx)).setCell ⟨pv, 1, none⟩ (.slice (some ⟨g9, 0, none⟩) V2.xs.length c9) = W := ⟨_, rfl⟩
    rw [hw19] at kP9 kN9 Z9 B9' hl9'
    obtain ⟨xf0, xf1⟩ := kP.f2
    obtain ⟨xx0, xx1⟩ := kP.g2
    have xl := kP.lt
    go_simp
    refine hK.out _ _ (by first | exact Blk.get kN9 k HnC.out | (rw [hw19]; exact Blk.get kN9 k HnC.out)) (fun _ => ?_)
    clear hK K
    try simp only [Act.put, pT_, pZ_, pS_]
    try rw [hw19]
    clear hw19 xf0 xf1 xx0 xx1 xl kP pN bw hZ
    refine wpAnyH_done (by kernel_rfl) ?_ _
    obtain ⟨D2, hS2⟩ := mk_some hS.out hQ9.out
    have HS2 := Lib.hid hS2
    clear hS2
    go_wp2
    go_roundw
    case rel => exact ⟨q + 1, by omega, by go_num, V2, D2, g9, c9, HS2, Lib.hid kP9, Lib.hid ⟨us8, Z9⟩, Lib.hid kN9, Lib.hid B9', Lib.hid hl9'⟩
    case measure => simp [intOf]; omega
 obtain rfl : q = 4 := by omega
 clear hlt hq
 obtain ⟨wa, hwa⟩ : ∃ W, W = wr := ⟨_, rfl⟩
 subst hwa
 have Hlist := Lib.hid hS.out.list
 have Hcur := Lib.hid hS.out.cur
 have hD12 := hS.out.len
 obtain ⟨L, hL⟩ : ∃ l, namesOf D = l := ⟨_, rfl⟩
 have hLn : L.length <= 12 := by rw [<- hL]; unfold namesOf; rw [List.length_map]; exact hD12
 have HL := Lib.hid hL
 rw [hL] at Hlist
 clear hL hD12
 obtain ⟨p_0, p_1⟩ := hP.out.g2
 go_wp2_with fail
 refine (listDir_spec _ V hS.out.sz ⟨#[47]⟩ (by decide) wa (YRe.isC hY.out V.nx)).mono ?_
 rintro e w5 ⟨hb5, vL, rfl, ho5⟩
 rw [Hlist.out] at ho5 ⊢
 simp only at ho5 ⊢
 clear p_0 p_1 Hlist
 obtain ⟨AL, cL, rfl, _⟩ := own_vals ho5
 have hl5 : lo <= w5.heap.size := by have := hb5.size; have := hl.out; omega
 have o5 := own_more ho5 hl.out
 have kP5 := hP.out.below hb5 hP.out.lt
 have y5 := YRe.below hY.out hb5
 have kN5 := hN.out.below hb5 hN.out.lt
 have B5 := belN hB.out hb5
 clear ho5 hb5 hP hY hN hB hl
 have b6 : Below w5.heap.size w5 (w5.alloc (.cells #[] 9)) := belA (bel0 w5) _
 have own6 := Lib.hid (show (w5.alloc (.cells #[] 9)).ownsRow lo 9 1 (.slice (some ⟨w5.heap.size, 0, none⟩) 0 0) 0 (SS []) from by have h := World.ownsRow_lit w5 #[] 0 (base := lo) (e := 9) (size := 1) hl5 (by unfold maxLen; omega) rfl; simpa [SS] using h)
 have o6 := Lib.hid (own_below o5 b6 (Nat.le_refl _))
 have R6 := Lib.hid (rd_of o6.out)
 have D6 := Lib.hid (Dis.lit o5 (k := 0) (c := 0))
 have kP6 := Lib.hid (kP5.below b6 kP5.lt)
 have y6 := Lib.hid (YRe.below y5 b6)
 have kN6 := Lib.hid (kN5.below b6 kN5.lt)
 have B6 := Lib.hid (belN B5 b6)
 clear o5 kP5 y5 kN5 B5 b6
 go_upto_region 10 with fail
 go_upto_region 11 with (at_builtin; go_must (refine wpList_app _ rfl _ _ _ rfl Tryz.el_str own6.out rfl R6.out rfl (SS_cells L) (max_small (by omega)) (by omega) (by simp; omega) ?_); intro ve w7 own7 hg7 ha7 hb7)
 have re7 : w7.ownsRow lo 9 1 ve L.length (SS L) := by simpa [SS] using own7
 have ra7 := o6.out.kept hg7 D6.out.1
 have ae := D6.out.1.old o6.out ha7
 have ea := D6.out.2.new o6.out ha7
 have kP7 := kP6.out.growS own6.out (by decide) hg7
 have kN7 := kN6.out.growL own6.out hgNl hg7
 obtain ⟨us6, y6'⟩ := y6.out
 have y7 : ∃ us, YR w7 0 g c V.xs us := ⟨us6, y6'.growS own6.out hg7⟩
 have B7 : Below w.heap.size w w7 := B6.out.trans (hb7.mono hlow)
 have hl7 : lo <= w7.heap.size := by have := hb7.size; simp at this; omega
 have RE7 := Lib.hid re7
 have RA7 := Lib.hid ra7
 have AE := Lib.hid ae
 have EA := Lib.hid ea
 clear own7 hg7 ha7 hb7 own6 o6 R6 D6 kP6 y6 y6' kN6 B6 hl5 re7 ra7 ae ea
 obtain ⟨w8, hw8⟩ : ∃ W, w7.alloc (.cells #[] 9) = W := ⟨_, rfl⟩
 have b8 : Below w7.heap.size w7 w8 := by rw [<- hw8]; exact belA (bel0 w7) _
 have rs8 : w8.ownsRow lo 9 1 (.slice (some ⟨w7.heap.size, 0, none⟩) 0 0) 0 (SS []) := by
  have h := World.ownsRow_lit w7 #[] 0 (base := lo) (e := 9) (size := 1) hl7 (by unfold maxLen; omega) rfl
  rw [<- hw8]
  simpa [SS] using h
 have DA := Lib.hid (Dis.lit RA7.out (k := 0) (c := 0))
 have DE := Lib.hid (Dis.lit RE7.out (k := 0) (c := 0))
 obtain ⟨g8, hg8⟩ : ∃ q, w7.heap.size = q := ⟨_, rfl⟩
 have Hw8 := Lib.hid hw8
 have Hg8 := Lib.hid hg8
 go_upto_region 12 with fail
 try rw [Hg8.out]
 try rw [hg8] at rs8
 simp only [hg8] at DA DE
 try rw [Hw8.out]
 clear hw8 hg8 Hw8 Hg8
 have RS8 := Lib.hid rs8
 have RE8 := Lib.hid (own_below RE7.out b8 (Nat.le_refl _))
 have RA8 := Lib.hid (own_below RA7.out b8 (Nat.le_refl _))
 have kP8 := kP7.below b8 kP7.lt
 have y8 := YRe.below y7 b8
 have kN8 := kN7.below b8 kN7.lt
 have B8 := belN B7 b8
 have hl8 : lo <= w8.heap.size := by have := b8.size; omega
 clear rs8 RE7 RA7 kP7 y7 kN7 B7 b8 hl7
 obtain ⟨p_0, p_1⟩ := kP8.g2
 go_wp2_with fail
 refine (curOpen_impl _ V hS.out.sz ⟨#[47]⟩ (by decide) w8 (HT.out.bl B8) (YRe.isC y8 V.nx)).mono ?_
 rintro e w9 ⟨⟨E, fb, hE, rfl⟩, hb9⟩
 rw [Hcur.out] at hE
 cases hE
 simp only
 clear p_0 p_1 Hcur
 obtain ⟨pc, hpc⟩ : ∃ q, w9.heap.size = q := ⟨_, rfl⟩
 obtain ⟨w10, hw10⟩ : ∃ W, w9.alloc (.cells #[.int .i64 1, .int .i64 (-1), .int .i64 (-1)] 61) = W := ⟨_, rfl⟩
 have b10 : Below w9.heap.size w9 w10 := by rw [<- hw10]; exact belA (bel0 w9) _
 have kC10 : Blk w10 pc 61 #[.int .i64 1, .int .i64 (-1), .int .i64 (-1)] := by rw [<- hw10, <- hpc]; exact Blk.new' _ _ _ _ rfl
 have b810 : Below w8.heap.size w8 w10 := hb9.trans (b10.mono hb9.size)
 have hpcl : lo <= pc := by have := hb9.size; omega
 have Hw10 := Lib.hid hw10
 have Hpc := Lib.hid hpc
 clear hw10 hpc b10 hb9
 go_upto_region 13 with fail
 try rw [Hpc.out]
 rw [Hw10.out]
 clear Hw10 Hpc
 have HW := Lib.hid (show LawW lo pv pc gN w10 V g c (-1) (-1) (.slice AL L.length cL) ve (.slice (some ⟨g8, 0, none⟩) 0 0) L L [] from ⟨by omega, hgNl, hpcl, by have := b810.size; omega, kP8.below b810 kP8.lt, YRe.below y8 b810, kC10, kN8.below b810 kN8.lt, own_below RA8.out b810 (Nat.le_refl _), own_below RE8.out b810 (Nat.le_refl _), own_below RS8.out b810 (Nat.le_refl _), AE.out, DA.out.1, EA.out, DE.out.1, DA.out.2, DE.out.2⟩)
 have HI := Lib.hid (show ScI D L L [] (-1) (-1) by rw [<- HL.out]; exact ScI.start hS.out.dir)
 have B10 := belN B8 b810
 clear RS8 RE8 RA8 kP8 y8 kN8 B8 hl8 b810 kC10 AE EA DA DE HL hpcl
 go_wp2
 go_loopw [6, 8, 9, 12] (fun sa se ss i wr => ∃ va ve vs : Value, va = sa /\ ve = se /\ vs = ss /\ ∃ (q : Nat) (V : VolD) (D : List EntD) (g c : Nat) (x y : Int) (all ever seen : List ByteArray), 4 <= q /\ q <= 30 /\ i = .int .i64 q /\ all.length <= 12 /\ ever.length <= 12 + q /\ seen.length <= q /\ Hid (ScS V D) /\ Hid (ScI D all ever seen x y) /\ Hid (LawW lo pv pc gN wr V g c x y va ve vs all ever seen) /\ Hid (Below w.heap.size w wr)) (fun _ _ _ i _ => 30 - (intOf i).toNat)
 case atStart => exact ⟨_, _, _, rfl, rfl, rfl, 4, V, D, g, c, -1, -1, L, L, [], by omega, by omega, rfl, hLn, by omega, by simp, hS, HI, HW, Lib.hid B10⟩
 case round =>
 clear HW HI B10 hS hLn
 obtain ⟨va, ve, vs, rfl, rfl, rfl, q, V, D, g, c, x, y, all, ever, seen, hq4, hq, rfl, hla, hle, hls, hS, hI, hW, hB⟩ := hrel
 skip
 obtain ⟨wa, hwa⟩ : ∃ W, W = wr := ⟨_, rfl⟩
 subst hwa
 by_cases hlt : q < 30
 rotate_left
 ·obtain rfl : q = 30 := by omega
  clear hlt hq hq4
  have hD12 := hS.out.len
  obtain ⟨p, hrk⟩ := rank_ex hS.out.dir x y
  have Hrk := Lib.hid hrk
  clear hrk
  go_wp2
  go_loopw [9, 23] (fun ss i wr => ∃ vs : Value, vs = ss /\ ∃ (j : Nat) (x y : Int) (seen : List ByteArray) (p : Nat), j <= 14 /\ i = .int .i64 j /\ seen.length <= 30 + j /\ D.length <= p + (14 - j) /\ Hid (Rk D x y p) /\ Hid (ScI D all ever seen x y) /\ Hid (LawW lo pv pc gN wr V g c x y va ve vs all ever seen) /\ Hid (Below w.heap.size w wr)) (fun _ i _ => 14 - (intOf i).toNat)
  case atStart => exact ⟨_, rfl, 0, x, y, seen, p, by omega, rfl, by omega, by omega, Hrk, hI, hW, hB⟩
  case round =>
  clear hI hW hB hls Hrk
  obtain ⟨vs, rfl, j, x, y, seen, p, hj, rfl, hls, hDp, Hrk, hI, hW, hB⟩ := hrel
  obtain ⟨wz, hwz⟩ : ∃ W, W = wr := ⟨_, rfl⟩
  subst hwz
  by_cases hlt : j < 14
  ·have jI : (j : Int) < 14 := by omega
   obtain ⟨p_0, p_1⟩ := hW.out.kV.g2
   obtain ⟨c_0, c_1, c_2⟩ := hW.out.kC.g3
   go_wp2_with fail
   refine (cur_next _ V D hS.out x y wz (HT.out.bl hB.out) (YRe.isC hW.out.yr V.nx)).mono ?_
   rintro e w7 ⟨rfl, hb7⟩
   have HW7 := hW.out.below hb7
   have B7 := belN hB.out hb7
   clear p_0 p_1 c_0 c_1 c_2 hW hB hb7
   by_cases hp : p < D.length
   rotate_left
   ·rw [Hrk.out.none (by omega)]
    simp only
    have b8 : Below w7.heap.size w7 (w7.alloc (.cells #[.int .i64 1, .int .i64 x, .int .i64 y] 61)) := belA (bel0 w7) _
    have HW8 := Lib.hid (HW7.below b8)
    have B8 := Lib.hid (belN B7 b8)
    clear HW7 B7 b8
    go_wp2
    go_roundw
    case rel => exact ⟨_, rfl, j + 1, x, y, seen, p, by omega, by go_num, by omega, by omega, Hrk, hI, HW8, B8⟩
    case measure => simp [intOf]; omega
   rw [Hrk.out.some hp]
   have hI2 := hI.out.nx hS.out.dir Hrk.out hp
   have hrk2 := Rk.next hS.out.dir hp
   have hez : D[p].s.size <= 24 := by
    have h1 := (dirOk_pw.1 hS.out.dir).2.1 _ (List.getElem_mem hp)
    unfold entOkB at h1
    simp only [Bool.and_eq_true] at h1
    exact name_le h1.1
   obtain ⟨E, hE⟩ : ∃ E, D[p] = E := ⟨_, rfl⟩
   rw [hE] at hI2 hrk2 hez ⊢
   clear hE
   obtain ⟨eh, ei, en, ed⟩ := E
   simp only at hI2 hrk2 hez ⊢
   have HI2 := Lib.hid hI2
   have Hrk2 := Lib.hid hrk2
   clear hI2 hrk2 hI
   obtain ⟨pb, hpb⟩ : ∃ q, w7.heap.size = q := ⟨_, rfl⟩
   obtain ⟨w8, hw8⟩ : ∃ W, w7.alloc (.cells #[.int .i64 1, .int .i64 eh, .int .i64 ei] 61) = W := ⟨_, rfl⟩
   have b8 : Below w7.heap.size w7 w8 := by rw [<- hw8]; exact belA (bel0 w7) _
   have kB8 : Blk w8 pb 61 #[.int .i64 1, .int .i64 eh, .int .i64 ei] := by rw [<- hw8, <- hpb]; exact Blk.new' _ _ _ _ rfl
   have HW8 := HW7.below b8
   have B8 := belN B7 b8
   have hpcl := HW8.hc
   have hpcb : pb ≠ pc := by have := HW7.kC.lt; omega
   have Hw8 := Lib.hid hw8
   have Hpb := Lib.hid hpb
   clear hw8 hpb b8 HW7 B7
   go_upto_region 41 with fail
   try rw [Hpb.out]
   rw [Hw8.out]
   clear Hw8 Hpb
   have b10 : Below w8.heap.size w8 (w8.alloc (.cells #[.string en] 9)) := belA (bel0 w8) _
   have HW10 := Lib.hid (HW8.below b10)
   have B10 := Lib.hid (belN B8 b10)
   have kB10 := Lib.hid (kB8.alloc (.cells #[.string en] 9))
   have Rn : Hid (Reads (w8.alloc (.cells #[.string en] 9)) (w8.heap.size + 1) 1 (some ⟨w8.heap.size, 0, none⟩) 1 [.string en]) := Lib.hid (reads_new _ _ _ _ 1 (by rfl))
   have hl10 : lo <= w8.heap.size := HW8.sz
   have hrs := HW10.out.rs
   clear b10 HW8 B8 kB8
   go_upto_region 43 with (at_builtin; go_must (refine wpList_app _ rfl _ _ _ rfl Tryz.el_str hrs rfl Rn.out rfl (by simp [Value.oneCell']) (max_small (by omega)) (by omega) (by simp; omega) ?_); intro vs2 w11 own11 hg11 ha11 hb11)
   have HW11 := HW10.out.appS own11 hg11 ha11 hb11
   have kB11 := kB10.out.growS HW10.out.rs (by decide) hg11
   have B11 : Below w.heap.size w w11 := B10.out.trans (hb11.mono hlow)
   clear own11 hg11 ha11 hb11 hrs HW10 B10 Rn kB10
   obtain ⟨b_0, b_1, b_2⟩ := kB11.g3
   have bl := kB11.lt
   obtain ⟨c_0, c_1, c_2⟩ := HW11.kC.g3
   obtain ⟨cf0, cf1, cf2⟩ := HW11.kC.f3
   have cl := HW11.kC.lt
   have HW12 := Lib.hid (HW11.setC eh ei)
   have hpw : w.heap.size <= pc := Nat.le_trans hlow hpcl
   have B12 := Lib.hid (belC (belC (belC B11 pc 0 hpw (.int .i64 1)) pc 1 hpw (.int .i64 eh)) pc 2 hpw (.int .i64 ei))
   clear HW11 kB11 B11
   go_wp2_with fail
   refine ⟨⟨_, _, _, _, _, _, _, _, _, _, _, _, _, _, _, _, _, _, _, _, _, _, _, ?_, rfl⟩, ?_⟩
   ·exact ⟨_, rfl, j + 1, eh, ei, seen ++ [en], p + 1, by omega, by go_num, by simp; omega, by omega, Hrk2, HI2, HW12, B12⟩
   ·simp [intOf]; omega
  obtain rfl : j = 14 := by omega
  have hfin := hI.out.fin Hrk.out (by omega)
  have Hfin := Lib.hid hfin
  have Hev := Lib.hid hI.out.seen_
  obtain ⟨Aa, ca, rfl, _⟩ := own_vals hW.out.ra
  obtain ⟨Ae, ce, rfl, _⟩ := own_vals hW.out.re
  obtain ⟨As, cs, rfl, _⟩ := own_vals hW.out.rs
  have Ra := Lib.hid (rd_of hW.out.ra)
  have Re := Lib.hid (rd_of hW.out.re)
  have Rs := Lib.hid (rd_of hW.out.rs)
  clear hfin hI hW Hrk hDp hj hlt
  go_wp2
  go_loopw [27] (fun i wr => ∃ k : Nat, k <= all.length /\ i = .int .i64 k /\ Hid (Below wz.heap.size wz wr)) (fun i _ => all.length - (intOf i).toNat)
  case atStart => exact ⟨0, Nat.zero_le _, rfl, Lib.hid (bel0 wz)⟩
  case round =>
  obtain ⟨k, hk, rfl, hb⟩ := hrel
  obtain ⟨w5, hw5⟩ : ∃ W, W = wr := ⟨_, rfl⟩
  subst hw5
  by_cases hlt : k < all.length
  ·have kI : (k : Int) < ((all.length : Nat) : Int) := by omega
   have hf1 := Hfin.out _ (List.getElem_mem hlt)
   obtain ⟨t, ht⟩ : ∃ t, all[k] = t := ⟨_, rfl⟩
   have Ht := Lib.hid ht
   rw [ht] at hf1
   have Hf1 := Lib.hid hf1
   clear ht hf1
   go_wp2
   go_loopw [28, 29] (fun cn i wr => ∃ m : Nat, m <= seen.length /\ i = .int .i64 m /\ (∃ z : Nat, cn = .int .i64 z /\ z <= m /\ Hid (z = cntT t (seen.take m))) /\ Hid (Below w5.heap.size w5 wr)) (fun _ i _ => seen.length - (intOf i).toNat)
   case atStart => exact ⟨0, Nat.zero_le _, rfl, ⟨0, rfl, Nat.le_refl _, Lib.hid rfl⟩, Lib.hid (bel0 w5)⟩
   case round =>
   obtain ⟨m, hm, rfl, ⟨z, rfl, hzm, hz⟩, hb6⟩ := hrel
   obtain ⟨w6, hw6⟩ : ∃ W, W = wr := ⟨_, rfl⟩
   subst hw6
   by_cases hlm : m < seen.length
   rotate_left
   ·obtain rfl : m = seen.length := by omega
    have mI : ¬ (((seen.length : Nat) : Int) < ((seen.length : Nat) : Int)) := by omega
    obtain rfl : z = 1 := by have h1 := hz.out; rw [List.take_length] at h1; rw [h1]; exact Hf1.out
    have hb7 := Lib.hid (hb.out.trans (hb6.out.mono hb.out.size))
    go_wp2
    go_roundw
    case rel => exact ⟨k + 1, by omega, by go_num, hb7⟩
    case measure => simp [intOf]; omega
   have m0 : (0 : Int) <= (m : Int) := by omega
   have mI : (m : Int) < ((seen.length : Nat) : Int) := by omega
   have k0 : (0 : Int) <= (k : Int) := by omega
   obtain ⟨_, b1, o1, hA1, _, z1⟩ := reads_strF ((Ra.out.below (hb.out.trans (hb6.out.mono hb.out.size)))) hlt
   obtain ⟨_, b2, o2, hA2, _, z2⟩ := reads_strF ((Rs.out.below (hb.out.trans (hb6.out.mono hb.out.size)))) hlm
   subst hA1 hA2
   have hct := cntT_take (a := t) hlm
   rw [Ht.out] at z1
   obtain ⟨s2, hs2⟩ : ∃ s, seen[m] = s := ⟨_, rfl⟩
   rw [hs2] at z2 hct
   have Hct := Lib.hid hct
   clear hct hs2
   have B6 := Lib.hid (hb6.out.drew)
   go_upto_region 51 with fail
   by_cases hst : s2 = t
   ·subst hst
    have wz1 : IntKind.i64.wrap ((z : Int) + 1) = ((z + 1 : Nat) : Int) := by rw [IntKind.wrap_i64]; omega
    go_region
    go_wp2_with fail
    first
     | exact ⟨⟨m + 1, by omega, by go_num, ⟨z + 1, by first | rfl | go_num, by omega, Lib.hid (by rw [Hct.out, if_pos rfl, hz.out])⟩, B6⟩, by simp [intOf]; omega⟩
     | (go_roundw; case rel => exact ⟨m + 1, by omega, by go_num, ⟨z + 1, by first | rfl | go_num, by omega, Lib.hid (by rw [Hct.out, if_pos rfl, hz.out])⟩, B6⟩; case measure => (simp [intOf]; omega))
   have hne := tl_ne hst
   have hne2 := tl_ne (fun e => hst e.symm)
   have Hst := Lib.hid hst
   clear hst
   go_region
   go_wp2_with fail
   first
    | exact ⟨⟨m + 1, by omega, by go_num, ⟨z, rfl, by omega, Lib.hid (by rw [Hct.out, if_neg Hst.out, hz.out]; rfl)⟩, B6⟩, by simp [intOf]; omega⟩
    | (go_roundw; case rel => exact ⟨m + 1, by omega, by go_num, ⟨z, rfl, by omega, Lib.hid (by rw [Hct.out, if_neg Hst.out, hz.out]; rfl)⟩, B6⟩; case measure => (simp [intOf]; omega))
  obtain rfl : k = all.length := by omega
  have kI : ¬ (((all.length : Nat) : Int) < ((all.length : Nat) : Int)) := by omega
  go_wp2
  go_loopw [30] (fun i wr => ∃ k : Nat, k <= seen.length /\ i = .int .i64 k /\ Hid (Below wz.heap.size wz wr)) (fun i _ => seen.length - (intOf i).toNat)
  case atStart => exact ⟨0, Nat.zero_le _, rfl, hb⟩
  case round =>
  clear hb kI
  obtain ⟨k, hk, rfl, hb⟩ := hrel
  obtain ⟨w5, hw5⟩ : ∃ W, W = wr := ⟨_, rfl⟩
  subst hw5
  by_cases hlt2 : k < seen.length
  ·have kI : (k : Int) < ((seen.length : Nat) : Int) := by omega
   have hf1 := Hev.out _ (List.getElem_mem hlt2)
   obtain ⟨t, ht⟩ : ∃ t, seen[k] = t := ⟨_, rfl⟩
   have Ht := Lib.hid ht
   rw [ht] at hf1
   have Hf1 := Lib.hid hf1
   clear ht hf1
   go_wp2
   go_loopw [31, 32] (fun bb i wr => ∃ m : Nat, m <= ever.length /\ i = .int .i64 m /\ (∃ z : Bool, bb = .bool z /\ Hid (z = true ↔ t ∈ ever.take m)) /\ Hid (Below w5.heap.size w5 wr)) (fun _ i _ => ever.length - (intOf i).toNat)
   case atStart => exact ⟨0, Nat.zero_le _, rfl, ⟨false, rfl, Lib.hid (by simp)⟩, Lib.hid (bel0 w5)⟩
   case round =>
   obtain ⟨m, hm, rfl, ⟨z, rfl, hz⟩, hb6⟩ := hrel
   obtain ⟨w6, hw6⟩ : ∃ W, W = wr := ⟨_, rfl⟩
   subst hw6
   by_cases hlm : m < ever.length
   rotate_left
   ·obtain rfl : m = ever.length := by omega
    have mI : ¬ (((ever.length : Nat) : Int) < ((ever.length : Nat) : Int)) := by omega
    obtain rfl : z = true := hz.out.2 (by rw [List.take_length]; exact Hf1.out)
    have hb7 := Lib.hid (hb.out.trans (hb6.out.mono hb.out.size))
    go_wp2
    go_roundw
    case rel => exact ⟨k + 1, by omega, by go_num, hb7⟩
    case measure => simp [intOf]; omega
   have m0 : (0 : Int) <= (m : Int) := by omega
   have mI : (m : Int) < ((ever.length : Nat) : Int) := by omega
   have k0 : (0 : Int) <= (k : Int) := by omega
   obtain ⟨_, b1, o1, hA1, _, z1⟩ := reads_strF ((Rs.out.below (hb.out.trans (hb6.out.mono hb.out.size)))) hlt2
   obtain ⟨_, b2, o2, hA2, _, z2⟩ := reads_strF ((Re.out.below (hb.out.trans (hb6.out.mono hb.out.size)))) hlm
   subst hA1 hA2
   have hmt : ∀ s, s ∈ ever.take (m + 1) ↔ s ∈ ever.take m ∨ s = ever[m] := fun s => by rw [List.take_succ_eq_append_getElem hlm, List.mem_append, List.mem_singleton]
   rw [Ht.out] at z1
   obtain ⟨s2, hs2⟩ : ∃ s, ever[m] = s := ⟨_, rfl⟩
   rw [hs2] at z2
   simp only [hs2] at hmt
   have Hmt := Lib.hid hmt
   clear hmt hs2
   have B6 := Lib.hid (hb6.out.drew)
   go_upto_region 62 with fail
   rcases z with _ | _
   rotate_left
   ·go_region
    go_wp2_with fail
    first
     | exact ⟨⟨m + 1, by omega, by go_num, ⟨true, rfl, Lib.hid (by rw [Hmt.out]; exact ⟨fun _ => .inl (hz.out.1 rfl), fun _ => rfl⟩)⟩, B6⟩, by simp [intOf]; omega⟩
     | (go_roundw; case rel => exact ⟨m + 1, by omega, by go_num, ⟨true, rfl, Lib.hid (by rw [Hmt.out]; exact ⟨fun _ => .inl (hz.out.1 rfl), fun _ => rfl⟩)⟩, B6⟩; case measure => (simp [intOf]; omega))
   by_cases hst : s2 = t
   ·subst hst
    go_region
    go_wp2_with fail
    first
     | exact ⟨⟨m + 1, by omega, by go_num, ⟨true, rfl, Lib.hid (by rw [Hmt.out]; exact ⟨fun _ => .inr rfl, fun _ => rfl⟩)⟩, B6⟩, by simp [intOf]; omega⟩
     | (go_roundw; case rel => exact ⟨m + 1, by omega, by go_num, ⟨true, rfl, Lib.hid (by rw [Hmt.out]; exact ⟨fun _ => .inr rfl, fun _ => rfl⟩)⟩, B6⟩; case measure => (simp [intOf]; omega))
   have hne := tl_ne hst
   have hne2 := tl_ne (fun e => hst e.symm)
   have Hst := Lib.hid hst
   clear hst
   go_region
   go_wp2_with fail
   first
    | exact ⟨⟨m + 1, by omega, by go_num, ⟨false, rfl, Lib.hid (by rw [Hmt.out]; exact ⟨(fun h => by cases h), (fun h => h.elim (fun h => hz.out.2 h) (fun h => absurd h.symm Hst.out))⟩)⟩, B6⟩, by simp [intOf]; omega⟩
    | (go_roundw; case rel => exact ⟨m + 1, by omega, by go_num, ⟨false, rfl, Lib.hid (by rw [Hmt.out]; exact ⟨(fun h => by cases h), (fun h => h.elim (fun h => hz.out.2 h) (fun h => absurd h.symm Hst.out))⟩)⟩, B6⟩; case measure => (simp [intOf]; omega))
  obtain rfl : k = seen.length := by omega
  have kI : ¬ (((seen.length : Nat) : Int) < ((seen.length : Nat) : Int)) := by omega
  go_wp2
  go_ret
  exact ⟨rfl, belN hB.out hb.out⟩
 have qI : (q : Int) < 30 := by omega
 obtain ⟨x1, xl, xh, hat⟩ := Hat.out q (by omega)
 have Hax := Lib.hid hat
 obtain ⟨k, nm, hk7, hkx, hnC, hnm⟩ := nms_pick xl
 have HnC := Lib.hid hnC
 have Hnm := Lib.hid hnm
 clear hnC hnm hat
 have k0 : (0 : Int) <= (k : Int) := by omega
 have k7 : (k : Int) < 7 := by omega
 obtain ⟨x2, yl, yh, hat2⟩ := Hat.out (q + 1) (by omega)
 have Hax2 := Lib.hid hat2
 clear hat2
 have wq : IntKind.i64.wrap ((q : Int) + 1) = ((q + 1 : Nat) : Int) := by rw [IntKind.wrap_i64]; omega
 have u1 : ¬ 9223372036854775807 < 1 + nm.size := by have := Hnm.out.2.2; omega
 have zN := hW.out.kN.get k HnC.out
 obtain ⟨ps, hps⟩ : ∃ t : ByteArray, ⟨#[47]⟩ ++ nm = t := ⟨_, rfl⟩
 have Hsz : Hid (ps.size <= 2000000) := Lib.hid (by rw [<- hps, ByteArray.size_append]; have h1 : (⟨#[47]⟩ : ByteArray).size = 1 := rfl; have := Hnm.out.2.2; omega)
 have Hsp : Hid (spB ps = ([nm], true)) := Lib.hid (by rw [<- hps]; exact Hnm.out.2.1)
 have Hps := Lib.hid hps
 clear hps
 go_wp2_with fail
 refine (Hax.out wa hB.out).mono ?_
 rintro e w5 ⟨rfl, hw5⟩
 subst hw5
 go_wp2_with fail
 refine (Hax2.out w5 hB.out).mono ?_
 rintro e w6 ⟨rfl, hw6⟩
 subst hw6
 clear zN hkx k0 k7 wq
 rcases (show x2.tmod 3 = 0 ∨ x2.tmod 3 = 1 ∨ x2.tmod 3 = 2 by rw [Int.tmod_eq_emod_of_nonneg yl]; omega) with m3 | m3 | m3
 ·skip
  obtain ⟨p_0, p_1⟩ := hW.out.kV.g2
  go_wp2_with fail
  rw [Hps.out]
  refine (pathDo_mk _ V D hS.out ps nm Hsz.out Hsp.out Hnm.out.1 w6 (YRe.isC hW.out.yr V.nx)).mono ?_
  rintro e w7 ⟨⟨V2, g9, c9, r0, r1, r2, r3, rfl, hQr, us9, hy9⟩, hb7⟩
  have HQ := Lib.hid hQr
  have HW7 := hW.out.below hb7
  have B7 := belN hB.out hb7
  clear p_0 p_1 hW hB hQr u1 m3
  obtain ⟨pa, hpa⟩ : ∃ q, w7.heap.size = q := ⟨_, rfl⟩
  obtain ⟨w8, hw8⟩ : ∃ W, (w7.alloc (.cells #[.int .i64 V2.nx, .slice (some ⟨g9, 0, none⟩) V2.xs.length c9] 26)).alloc (.cells #[.int .i64 r0, .int .i64 r1, .string r2, .string r3] 54) = W := ⟨_, rfl⟩
  have b8 : Below w7.heap.size w7 w8 := by rw [<- hw8]; exact belA (belA (bel0 w7) _) _
  have kA8 : Blk w8 pa 26 #[.int .i64 V2.nx, .slice (some ⟨g9, 0, none⟩) V2.xs.length c9] := by rw [<- hw8, <- hpa]; exact (Blk.new' _ _ _ _ rfl).alloc _
  have kR8 : Blk w8 (pa + 1) 54 #[.int .i64 r0, .int .i64 r1, .string r2, .string r3] := by rw [<- hw8, <- hpa]; exact Blk.new' _ _ _ _ (by simp)
  have HW8 := HW7.below b8
  have hy8 := (hy9.below b8).more (Nat.zero_le _)
  have B8 := belN B7 b8
  have hpal : lo <= pa := by have := HW7.sz; omega
  have Hw8 := Lib.hid hw8
  have Hpa := Lib.hid hpa
  clear hw8 hpa b8 HW7 B7 hy9 hb7
  go_upto_region 24 with fail
  try rw [Hpa.out]
  rw [Hw8.out]
  clear Hw8 Hpa
  obtain ⟨a_0, a_1⟩ := kA8.g2
  obtain ⟨v_0, v_1⟩ := HW8.kV.g2
  obtain ⟨vf0, vf1⟩ := HW8.kV.f2
  have vl := HW8.kV.lt
  have al := kA8.lt
  have hne : pa ≠ pv := by omega
  have HW9 := HW8.setV (V' := V2) (g' := g9) (c' := c9) ⟨us9, hy8⟩
  have kR9 := (kR8.far (p := ⟨pv, 0, none⟩) (show pa + 1 ≠ pv by omega) (.int .i64 V2.nx)).far (p := ⟨pv, 1, none⟩) (show pa + 1 ≠ pv by omega) (.slice (some ⟨g9, 0, none⟩) V2.xs.length c9)
  have B9 := belC (belC B8 pv 0 hpv0 (.int .i64 V2.nx)) pv 1 hpv0 (.slice (some ⟨g9, 0, none⟩) V2.xs.length c9)
  obtain ⟨w9, hw9⟩ : ∃ W, (w8.setCell ⟨pv, 0, none⟩ (.int .i64 V2.nx)).setCell ⟨pv, 1, none⟩ (.slice (some ⟨g9, 0, none⟩) V2.xs.length c9) = W := ⟨_, rfl⟩
  rw [hw9] at HW9 kR9 B9
  have Hw9 := Lib.hid hw9
  clear hw9
  go_upto_region 25 with fail
  rw [Hw9.out]
  clear Hw9 a_0 a_1 v_0 v_1 vf0 vf1 vl al hne HW8 kA8 kR8 B8 hy8
  have r_0 := kR9.get 0 rfl
  by_cases hr0 : r0 = 0
  rotate_left
  ·have t0 : (r0 == 0) = false := by simpa using hr0
   obtain ⟨D2, hS2, hI2⟩ : ∃ D2, ScS V2 D2 /\ ScI D2 all ever seen x y := by
    rcases HQ.out with ⟨_, rfl⟩ | ⟨h0, _⟩
    ·exact ⟨D, hS.out, hI.out⟩
    ·exact absurd h0 hr0
   have HS2 := Lib.hid hS2
   have HI2 := Lib.hid hI2
   have HW9' := Lib.hid HW9
   clear hS2 hI2 hr0 HW9
   go_wp2
   go_roundw
   case rel => exact ⟨_, _, _, rfl, rfl, rfl, q + 1, V2, D2, g9, c9, x, y, all, ever, seen, by omega, by omega, by go_num, hla, by omega, by omega, HS2, HI2, HW9', Lib.hid B9⟩
   case measure => simp [intOf]; omega
  subst hr0
  obtain ⟨D2, hS2, hI2⟩ : ∃ D2, ScS V2 D2 /\ ScI D2 all (ever ++ [nm]) seen x y := by
   rcases HQ.out with ⟨h0, _⟩ | ⟨_, D2, h1, h2, h3⟩
   ·exact absurd rfl h0
   ·exact ⟨D2, h1, hI.out.mk' h2 h3⟩
  have HS2 := Lib.hid hS2
  have HI2 := Lib.hid hI2
  clear hS2 hI2
  have b10 : Below w9.heap.size w9 (w9.alloc (.cells #[.string nm] 9)) := belA (bel0 w9) _
  have HW10 := Lib.hid (HW9.below b10)
  have B10 := Lib.hid (belN B9 b10)
  have Rn : Hid (Reads (w9.alloc (.cells #[.string nm] 9)) (w9.heap.size + 1) 1 (some ⟨w9.heap.size, 0, none⟩) 1 [.string nm]) := Lib.hid (reads_new _ _ _ _ 1 (by rfl))
  have hl10 : lo <= w9.heap.size := HW9.sz
  have hbr := HW10.out.re
  clear b10 HW9 B9
  go_wp2_with (at_builtin; go_must (refine wpList_app _ rfl _ _ _ rfl Tryz.el_str hbr rfl Rn.out rfl (by simp [Value.oneCell']) (max_small (by omega)) (by omega) (by simp; omega) ?_); intro ve2 w11 own11 hg11 ha11 hb11)
  have HW11 := Lib.hid (HW10.out.appE own11 hg11 ha11 hb11)
  have B11 := Lib.hid (B10.out.trans (hb11.mono hlow))
  clear own11 hg11 ha11 hb11 hbr HW10 B10 Rn
  go_roundw
  case rel => exact ⟨_, _, _, rfl, rfl, rfl, q + 1, V2, D2, g9, c9, x, y, all, ever ++ [nm], seen, by omega, by omega, by go_num, hla, by simp; omega, by omega, HS2, HI2, HW11, B11⟩
  case measure => simp [intOf]; omega
 ·skip
  obtain ⟨p_0, p_1⟩ := hW.out.kV.g2
  go_wp2_with fail
  rw [Hps.out]
  refine (pathDo_un _ V D hS.out ps nm Hsz.out Hsp.out w6 (YRe.isC hW.out.yr V.nx)).mono ?_
  rintro e w7 ⟨⟨V2, g9, c9, r0, r1, r2, r3, rfl, hQr, us9, hy9⟩, hb7⟩
  have HQ := Lib.hid hQr
  have HW7 := hW.out.below hb7
  have B7 := belN hB.out hb7
  clear p_0 p_1 hW hB hQr u1 m3
  obtain ⟨pa, hpa⟩ : ∃ q, w7.heap.size = q := ⟨_, rfl⟩
  obtain ⟨w8, hw8⟩ : ∃ W, (w7.alloc (.cells #[.int .i64 V2.nx, .slice (some ⟨g9, 0, none⟩) V2.xs.length c9] 26)).alloc (.cells #[.int .i64 r0, .int .i64 r1, .string r2, .string r3] 54) = W := ⟨_, rfl⟩
  have b8 : Below w7.heap.size w7 w8 := by rw [<- hw8]; exact belA (belA (bel0 w7) _) _
  have kA8 : Blk w8 pa 26 #[.int .i64 V2.nx, .slice (some ⟨g9, 0, none⟩) V2.xs.length c9] := by rw [<- hw8, <- hpa]; exact (Blk.new' _ _ _ _ rfl).alloc _
  have kR8 : Blk w8 (pa + 1) 54 #[.int .i64 r0, .int .i64 r1, .string r2, .string r3] := by rw [<- hw8, <- hpa]; exact Blk.new' _ _ _ _ (by simp)
  have HW8 := HW7.below b8
  have hy8 := (hy9.below b8).more (Nat.zero_le _)
  have B8 := belN B7 b8
  have hpal : lo <= pa := by have := HW7.sz; omega
  have Hw8 := Lib.hid hw8
  have Hpa := Lib.hid hpa
  clear hw8 hpa b8 HW7 B7 hy9 hb7
  go_upto_region 29 with fail
  try rw [Hpa.out]
  rw [Hw8.out]
  clear Hw8 Hpa
  obtain ⟨a_0, a_1⟩ := kA8.g2
  obtain ⟨v_0, v_1⟩ := HW8.kV.g2
  obtain ⟨vf0, vf1⟩ := HW8.kV.f2
  have vl := HW8.kV.lt
  have al := kA8.lt
  have hne : pa ≠ pv := by omega
  have HW9 := HW8.setV (V' := V2) (g' := g9) (c' := c9) ⟨us9, hy8⟩
  have kR9 := (kR8.far (p := ⟨pv, 0, none⟩) (show pa + 1 ≠ pv by omega) (.int .i64 V2.nx)).far (p := ⟨pv, 1, none⟩) (show pa + 1 ≠ pv by omega) (.slice (some ⟨g9, 0, none⟩) V2.xs.length c9)
  have B9 := belC (belC B8 pv 0 hpv0 (.int .i64 V2.nx)) pv 1 hpv0 (.slice (some ⟨g9, 0, none⟩) V2.xs.length c9)
  obtain ⟨w9, hw9⟩ : ∃ W, (w8.setCell ⟨pv, 0, none⟩ (.int .i64 V2.nx)).setCell ⟨pv, 1, none⟩ (.slice (some ⟨g9, 0, none⟩) V2.xs.length c9) = W := ⟨_, rfl⟩
  rw [hw9] at HW9 kR9 B9
  have Hw9 := Lib.hid hw9
  clear hw9
  go_upto_region 30 with fail
  rw [Hw9.out]
  clear Hw9 a_0 a_1 v_0 v_1 vf0 vf1 vl al hne HW8 kA8 kR8 B8 hy8
  have r_0 := kR9.get 0 rfl
  obtain ⟨D2, hS2, hI2⟩ := un_some hS.out hI.out HQ.out
  have HS2 := Lib.hid hS2
  have HI2 := Lib.hid hI2
  have Hall := Lib.hid (all_sz hS.out hI.out)
  obtain ⟨Aa, ca, rfl, _⟩ := own_vals HW9.ra
  have hnz : nm.size <= 2000000 := by have := Hnm.out.2.2; omega
  clear hS2 hI2 HQ hS hI r_0
  go_wp2
  go_loopw [18, 19] (fun vl i wr => ∃ (k : Nat) (left : List ByteArray), k <= all.length /\ i = .int .i64 k /\ left.length <= k /\ Hid (left = (all.take k).filter (keepF r0 nm)) /\ Hid (LeftW lo wr (.slice Aa all.length ca) ve vs vl left) /\ Hid (LawW lo pv pc gN wr V2 g9 c9 x y (.slice Aa all.length ca) ve vs all ever seen) /\ Hid (Blk wr (pa + 1) 54 #[.int .i64 r0, .int .i64 r1, .string r2, .string r3]) /\ Hid (Below w.heap.size w wr)) (fun _ i _ => all.length - (intOf i).toNat)
  case atStart => exact ⟨0, [], Nat.zero_le _, rfl, by simp, Lib.hid (by simp), Lib.hid (LeftW.lit HW9), Lib.hid (HW9.below (belA (bel0 _) _)), Lib.hid (kR9.alloc _), Lib.hid (belA B9 _)⟩
  case round =>
   obtain ⟨k2, left, hk2, rfl, hll, hleft, hLf, hWk, hRk, hBk⟩ := hrel
   obtain ⟨wk, hwk⟩ : ∃ W, W = wr := ⟨_, rfl⟩
   subst hwk
   by_cases hlt2 : k2 < all.length
   rotate_left
   ·obtain rfl : k2 = all.length := by omega
    have hI2' : ¬ (((all.length : Nat) : Int) < ((all.length : Nat) : Int)) := by omega
    have hlf : left = all.filter (keepF r0 nm) := by rw [hleft.out, List.take_length]
    have HWn := Lib.hid (hWk.out.newA hLf.out)
    have HI2b : Hid (ScI D2 left ever seen x y) := Lib.hid (by rw [hlf]; exact HI2.out)
    clear hlf
    go_wp2
    go_roundw
    case rel => exact ⟨_, _, _, rfl, rfl, rfl, q + 1, V2, D2, g9, c9, x, y, left, ever, seen, by omega, by omega, by go_num, by omega, by omega, by omega, HS2, HI2b, HWn, hBk⟩
    case measure => simp [intOf]; omega
   have i0 : (0 : Int) <= (k2 : Int) := by omega
   have i1 : (k2 : Int) < ((all.length : Nat) : Int) := by omega
   obtain ⟨_, bl, ol, hA2, _, zl⟩ := reads_strF (rd_of hWk.out.ra) hlt2
   subst hA2
   have hsz2 := Hall.out _ (List.getElem_mem hlt2)
   have hst := filter_step (p := keepF r0 nm) hlt2
   obtain ⟨t, ht⟩ : ∃ t, all[k2] = t := ⟨_, rfl⟩
   rw [ht] at zl hsz2 hst
   have Hst := Lib.hid hst
   clear ht hst
   have r_0 := hRk.out.get 0 rfl
   by_cases hr0 : r0 = 0
   ·subst hr0
    go_wp2_with fail
    refine (alike_spec t nm (by omega) hnz wk).mono ?_
    rintro e w12 ⟨rfl, hb12⟩
    have hbk : keepF 0 nm t = !alikeB t nm := by simp [keepF]
    have Hbk := Lib.hid hbk
    clear hbk
    have HWk := hWk.out.below hb12
    have HLf := hLf.out.below hb12
    have HRk := hRk.out.below hb12 hRk.out.lt
    have HBk := belN hBk.out hb12
    have zl2 := kp_ hb12 zl
    rcases hal : alikeB t nm with _ | _
    ·skip
     have hkp : keepF 0 nm t = true := by rw [Hbk.out, hal]; rfl
     have hnew : left ++ [t] = (all.take (k2 + 1)).filter (keepF 0 nm) := by rw [Hst.out, if_pos hkp, hleft.out]
     have Hnew := Lib.hid hnew
     have b13 : Below w12.heap.size w12 (w12.alloc (.cells #[.string t] 9)) := belA (bel0 w12) _
     have HW13 := Lib.hid (HWk.below b13)
     have HL13 := Lib.hid (HLf.below b13)
     have HR13 := Lib.hid (HRk.below b13 HRk.lt)
     have B13 := Lib.hid (belN HBk b13)
     have Rn : Hid (Reads (w12.alloc (.cells #[.string t] 9)) (w12.heap.size + 1) 1 (some ⟨w12.heap.size, 0, none⟩) 1 [.string t]) := Lib.hid (reads_new _ _ _ _ 1 (by rfl))
     have hl13 : lo <= w12.heap.size := HWk.sz
     have hrl := HL13.out.rl
     clear hkp hnew b13 HWk HLf HRk HBk
     go_wp2_with (at_builtin; go_must (refine wpList_app _ rfl _ _ _ rfl Tryz.el_str hrl rfl Rn.out rfl (by simp [Value.oneCell']) (max_small (by omega)) (by omega) (by simp; omega) ?_); intro vl2 w14 own14 hg14 ha14 hb14)
     have HW14 := Lib.hid (HW13.out.growL HL13.out hg14 hb14)
     have HL14 := Lib.hid (LeftW.app HW13.out HL13.out own14 ha14)
     have HR14 := Lib.hid (HR13.out.growS HL13.out.rl (by decide) hg14)
     have B14 := Lib.hid (B13.out.trans (hb14.mono hlow))
     clear own14 hg14 ha14 hb14 hrl HW13 HL13 HR13 B13 Rn
     go_roundw
     case rel => exact ⟨k2 + 1, left ++ [t], by omega, by go_num, by simp; omega, Hnew, HL14, HW14, HR14, B14⟩
     case measure => simp [intOf]; omega
    ·have hkp : ¬ keepF 0 nm t = true := by rw [Hbk.out, hal]; decide
     have hnew : left = (all.take (k2 + 1)).filter (keepF 0 nm) := by rw [Hst.out, if_neg hkp, List.append_nil]; exact hleft.out
     have Hnew := Lib.hid hnew
     have HWk' := Lib.hid HWk
     have HLf' := Lib.hid HLf
     have HRk' := Lib.hid HRk
     have HBk' := Lib.hid HBk
     clear hkp hnew HWk HLf HRk HBk
     go_wp2
     go_roundw
     case rel => exact ⟨k2 + 1, left, by omega, by go_num, by omega, Hnew, HLf', HWk', HRk', HBk'⟩
     case measure => simp [intOf]; omega
   have t0 : (r0 != 0) = true := by simpa using hr0
   have Hr0 := Lib.hid hr0
   have HWk := hWk.out
   have HLf := hLf.out
   have HRk := hRk.out
   have HBk := hBk.out
   clear hr0 hWk hLf hRk hBk
   have hkp : keepF r0 nm t = true := by simp [keepF, Hr0.out]
   have hnew : left ++ [t] = (all.take (k2 + 1)).filter (keepF r0 nm) := by rw [Hst.out, if_pos hkp, hleft.out]
   have Hnew := Lib.hid hnew
   have b13 : Below wk.heap.size wk (wk.alloc (.cells #[.string t] 9)) := belA (bel0 wk) _
   have HW13 := Lib.hid (HWk.below b13)
   have HL13 := Lib.hid (HLf.below b13)
   have HR13 := Lib.hid (HRk.below b13 HRk.lt)
   have B13 := Lib.hid (belN HBk b13)
   have Rn : Hid (Reads (wk.alloc (.cells #[.string t] 9)) (wk.heap.size + 1) 1 (some ⟨wk.heap.size, 0, none⟩) 1 [.string t]) := Lib.hid (reads_new _ _ _ _ 1 (by rfl))
   have hl13 : lo <= wk.heap.size := HWk.sz
   have hrl := HL13.out.rl
   clear hkp hnew b13 HWk HLf HRk HBk
   go_wp2_with (at_builtin; go_must (refine wpList_app _ rfl _ _ _ rfl Tryz.el_str hrl rfl Rn.out rfl (by simp [Value.oneCell']) (max_small (by omega)) (by omega) (by simp; omega) ?_); intro vl2 w14 own14 hg14 ha14 hb14)
   have HW14 := Lib.hid (HW13.out.growL HL13.out hg14 hb14)
   have HL14 := Lib.hid (LeftW.app HW13.out HL13.out own14 ha14)
   have HR14 := Lib.hid (HR13.out.growS HL13.out.rl (by decide) hg14)
   have B14 := Lib.hid (B13.out.trans (hb14.mono hlow))
   clear own14 hg14 ha14 hb14 hrl HW13 HL13 HR13 B13 Rn
   go_roundw
   case rel => exact ⟨k2 + 1, left ++ [t], by omega, by go_num, by simp; omega, Hnew, HL14, HW14, HR14, B14⟩
   case measure => simp [intOf]; omega
 ·skip
  clear u1 Hps Hsz Hsp Hnm HnC
  obtain ⟨p, hrk⟩ := rank_ex hS.out.dir x y
  have Hrk := Lib.hid hrk
  clear hrk
  obtain ⟨p_0, p_1⟩ := hW.out.kV.g2
  obtain ⟨c_0, c_1, c_2⟩ := hW.out.kC.g3
  go_wp2_with fail
  refine (cur_next _ V D hS.out x y w6 (HT.out.bl hB.out) (YRe.isC hW.out.yr V.nx)).mono ?_
  rintro e w7 ⟨rfl, hb7⟩
  have HW7 := hW.out.below hb7
  have B7 := belN hB.out hb7
  clear p_0 p_1 c_0 c_1 c_2 hW hB hb7
  by_cases hp : p < D.length
  rotate_left
  ·rw [Hrk.out.none (by omega)]
   simp only
   have b8 : Below w7.heap.size w7 (w7.alloc (.cells #[.int .i64 1, .int .i64 x, .int .i64 y] 61)) := belA (bel0 w7) _
   have HW8 := Lib.hid (HW7.below b8)
   have B8 := Lib.hid (belN B7 b8)
   clear HW7 B7 b8
   go_wp2
   go_roundw
   case rel => exact ⟨_, _, _, rfl, rfl, rfl, q + 1, V, D, g, c, x, y, all, ever, seen, by omega, by omega, by go_num, hla, by omega, by omega, hS, hI, HW8, B8⟩
   case measure => simp [intOf]; omega
  rw [Hrk.out.some hp]
  have hI2 := hI.out.nx hS.out.dir Hrk.out hp
  have hrk2 := Rk.next hS.out.dir hp
  have hez : D[p].s.size <= 24 := by
   have h1 := (dirOk_pw.1 hS.out.dir).2.1 _ (List.getElem_mem hp)
   unfold entOkB at h1
   simp only [Bool.and_eq_true] at h1
   exact name_le h1.1
  obtain ⟨E, hE⟩ : ∃ E, D[p] = E := ⟨_, rfl⟩
  rw [hE] at hI2 hrk2 hez ⊢
  clear hE
  obtain ⟨eh, ei, en, ed⟩ := E
  simp only at hI2 hrk2 hez ⊢
  have HI2 := Lib.hid hI2
  have Hrk2 := Lib.hid hrk2
  clear hI2 hrk2 hI
  obtain ⟨pb, hpb⟩ : ∃ q, w7.heap.size = q := ⟨_, rfl⟩
  obtain ⟨w8, hw8⟩ : ∃ W, w7.alloc (.cells #[.int .i64 1, .int .i64 eh, .int .i64 ei] 61) = W := ⟨_, rfl⟩
  have b8 : Below w7.heap.size w7 w8 := by rw [<- hw8]; exact belA (bel0 w7) _
  have kB8 : Blk w8 pb 61 #[.int .i64 1, .int .i64 eh, .int .i64 ei] := by rw [<- hw8, <- hpb]; exact Blk.new' _ _ _ _ rfl
  have HW8 := HW7.below b8
  have B8 := belN B7 b8
  have hpcl := HW8.hc
  have hpcb : pb ≠ pc := by have := HW7.kC.lt; omega
  have Hw8 := Lib.hid hw8
  have Hpb := Lib.hid hpb
  clear hw8 hpb b8 HW7 B7
  go_upto_region 19 with fail
  try rw [Hpb.out]
  rw [Hw8.out]
  clear Hw8 Hpb
  have b10 : Below w8.heap.size w8 (w8.alloc (.cells #[.string en] 9)) := belA (bel0 w8) _
  have HW10 := Lib.hid (HW8.below b10)
  have B10 := Lib.hid (belN B8 b10)
  have kB10 := Lib.hid (kB8.alloc (.cells #[.string en] 9))
  have Rn : Hid (Reads (w8.alloc (.cells #[.string en] 9)) (w8.heap.size + 1) 1 (some ⟨w8.heap.size, 0, none⟩) 1 [.string en]) := Lib.hid (reads_new _ _ _ _ 1 (by rfl))
  have hl10 : lo <= w8.heap.size := HW8.sz
  have hrs := HW10.out.rs
  clear b10 HW8 B8 kB8
  go_upto_region 21 with (at_builtin; go_must (refine wpList_app _ rfl _ _ _ rfl Tryz.el_str hrs rfl Rn.out rfl (by simp [Value.oneCell']) (max_small (by omega)) (by omega) (by simp; omega) ?_); intro vs2 w11 own11 hg11 ha11 hb11)
  have HW11 := HW10.out.appS own11 hg11 ha11 hb11
  have kB11 := kB10.out.growS HW10.out.rs (by decide) hg11
  have B11 : Below w.heap.size w w11 := B10.out.trans (hb11.mono hlow)
  clear own11 hg11 ha11 hb11 hrs HW10 B10 Rn kB10
  obtain ⟨b_0, b_1, b_2⟩ := kB11.g3
  have bl := kB11.lt
  obtain ⟨c_0, c_1, c_2⟩ := HW11.kC.g3
  obtain ⟨cf0, cf1, cf2⟩ := HW11.kC.f3
  have cl := HW11.kC.lt
  have HW12 := Lib.hid (HW11.setC eh ei)
  have hpw : w.heap.size <= pc := Nat.le_trans hlow hpcl
  have B12 := Lib.hid (belC (belC (belC B11 pc 0 hpw (.int .i64 1)) pc 1 hpw (.int .i64 eh)) pc 2 hpw (.int .i64 ei))
  clear HW11 kB11 B11
  go_wp2
  go_roundw
  case rel => exact ⟨_, _, _, rfl, rfl, rfl, q + 1, V, D, g, c, eh, ei, all, ever, seen ++ [en], by omega, by omega, by go_num, hla, by omega, by simp; omega, hS, HI2, HW12, B12⟩
  case measure => simp [intOf]; omega

end Go.Proofs.YtjjniapamdleoaaGreatDoor
