/- One directory's archive, of both sides. -/
import Derived.Test.YthdbomkddpnhaaaGreatDoorTarP
import Derived.Test.YthdbomkddpnhaaaGreatDoorRegH
namespace Go.Proofs.YthdbomkddpnhaaaGreatDoor
open Go Go.RowKit

theorem tar_step_dir (F p t : ByteArray) : F ++ ⟨#[100]⟩ ++ p ++ t ++ ⟨#[101]⟩ = F ++ (str [100] ++ p ++ t ++ str [101]) := by
  show F ++ str [100] ++ p ++ t ++ str [101] = _
  simp only [ByteArray.append_assoc]
theorem tar_step_file (F p t : ByteArray) : F ++ ⟨#[102]⟩ ++ p ++ t = F ++ (str [102] ++ p ++ t) := by
  show F ++ str [102] ++ p ++ t = _
  simp only [ByteArray.append_assoc]

set_option maxRecDepth 100000 in
set_option maxHeartbeats 8000000 in
theorem tar_gen (v : Value) (V : VolD) (sm : szV V ≤ 1048576) (hv : VolP V.nx V.xs) (T : Int → ByteArray) (a : Int) (k : Nat) (hk : k < V.xs.length) (hpl : plc V.xs a = (k : Int)) (hT : ∀ x ∈ V.xs, x.kd = 2 → (T x.id).size ≤ 320000) (hsz : (tarR V.xs T V.xs[k].es).size ≤ 320000)
    (hrec : ∀ (i : Nat) (hi : i < V.xs[k].es.length) (j : Nat) (hj : j < V.xs.length), plc V.xs V.xs[k].es[i].d = (j : Int) → V.xs[j].kd = 2 → ∀ W, IsVolC W v V → Calls Tryz.prog 69 #[v, .int .i64 V.xs[j].id] W fun e w' => e = .returned (.string (T V.xs[j].id)) ∧ Below W.heap.size W w')
    (w : World) (hC : IsVolC w v V) :
    Calls Tryz.prog 69 #[v, .int .i64 a] w fun e w' => e = .returned (.string (tarR V.xs T V.xs[k].es)) ∧ Below w.heap.size w w' := by
  have hn := v_len sm
  have Hat := Lib.hid (fun a W hW => at_impl v V hn a W hW)
  have hrn := v_rows sm _ (List.getElem_mem hk)
  have Hsub := Lib.hid (fun e he => hv.not1 (List.getElem_mem hk) (e := e) he)
  have Hnm := Lib.hid (fun e he => es_name hv (List.getElem_mem hk) (e := e) he)
  have Hdat := Lib.hid (fun x hx => (ino_data hv (x := x) hx).1)
  have HTs := Lib.hid hT
  have Hrec := Lib.hid hrec
  have hvv := Lib.hid hC
  have h := hC.is
  obtain ⟨A, c, rfl, h⟩ := h
  obtain ⟨nx, xs⟩ := V
  simp only at Hat Hsub Hnm Hdat HTs Hrec hrn hk hpl hn hsz h ⊢
  have H := Lib.hid h
  clear h hC hT hrec sm hv
  obtain ⟨es, hes⟩ : ∃ es, xs[k].es = es := ⟨_, rfl⟩
  have HE := Lib.hid hes
  simp only [hes] at Hsub Hnm Hrec hrn hsz ⊢
  obtain ⟨m, hm⟩ : ∃ m, es.length = m := ⟨_, rfl⟩
  have HM := Lib.hid hm
  rw [hm] at hrn
  clear hm
  obtain ⟨n, hn'⟩ : ∃ n, xs.length = n := ⟨_, rfl⟩
  have HL := Lib.hid hn'
  have hkn : k < n := by omega
  simp only [hn'] at Hat hvv H hn Hrec
  have q0 : (0 : Int) ≤ ↑k := by omega
  have q1 : (↑k : Int) < ↑n := by omega
  obtain ⟨W1, hW1⟩ : ∃ W1, w.alloc (.cells #[.int .i64 nx, .slice A n c] 30) = W1 := ⟨_, rfl⟩
  have B1 : Below w.heap.size w W1 := by rw [← hW1]; exact belA (bel0 w) _
  have hV : Blk W1 w.heap.size 30 #[.int .i64 nx, .slice A n c] := by rw [← hW1]; exact Blk.new' _ _ _ _ rfl
  have S1 := hV.lt
  have HW1 := Lib.hid hW1
  have v0 := hV.get 0 rfl
  have v1 := hV.get 1 rfl
  have V0 := Lib.hid v0
  have V1 := Lib.hid v1
  clear hW1 hV
  obtain ⟨_, b, o, A', c', hA, hadb, _, _, _, _, z4', hrow⟩ := H.out.at_ hkn
  subst hA
  have z4 := keep1 B1 z4' (Nat.le_refl _)
  rw [HE.out, HM.out] at z4
  rw [HE.out, HM.out] at hrow
  have Hrow := Lib.hid hrow
  clear z4' hrow
  have Hat1 := Lib.hid (fun W hW => Hat.out a W hW)
  simp only [hpl] at Hat1
  go_enter Tryz.func69, Tryz.ntmps69
  go_wp2_with fail
  rw [HW1.out]
  go_region_held3 (fun w' => w'.cell? ⟨w.heap.size, 0, none⟩ = some (.int .i64 nx) ∧ w'.cell? ⟨w.heap.size, 1, none⟩ = some (.slice (some ⟨b, o, none⟩) n c) ∧ w'.cell? ⟨b, o + k * 5 + 4, none⟩ = some (.slice A' m c'))
    (first | go_keep | (refine ⟨keep1 hb5 ?_, keep1 hb5 ?_, keep1 hb5 ?_⟩ <;> go_keep))
    (first | (go_at_call 67; refine (Hat1.out _ (hvv.out.next B1.drew).is).mono ?_; rintro e w5 ⟨rfl, hb5⟩))
  have V0 := Lib.hid (keep1 hb5 (show W1.drew.cell? _ = _ from V0.out) (Nat.le_refl _))
  have V1 := Lib.hid (keep1 hb5 (show W1.drew.cell? _ = _ from V1.out) (Nat.le_refl _))
  have B5 := belN B1.drew hb5
  have S5 : w.heap.size < w5.heap.size := Nat.lt_of_lt_of_le S1 hb5.size
  clear v0 v1 z4
  go_wp2
  go_loopw [5, 18] (fun x i wr => ∃ (p : Nat), p ≤ m ∧ i = .int .i64 p ∧ x = .string (tarR xs T (es.take p)) ∧ Below w5.heap.size w5 wr)
    (fun _ i _ => m - (intOf i).toNat)
  case atStart => exact ⟨0, by omega, rfl, by rw [List.take_zero]; rfl, bel0 w5⟩
  case round =>
    obtain ⟨p, hp, rfl, rfl, hbel⟩ := hrel
    have v0 := keep1 hbel V0.out (Nat.le_refl _)
    have v1 := keep1 hbel V1.out (Nat.le_refl _)
    have BB := belN B5 hbel
    have hFs := tarR_take xs T es p
    by_cases hlt : p < m
    · obtain ⟨hpx, b2, o2, hA', hadb2, y0, y1, y2, y3⟩ := reads_ent (Hrow.out.below BB) hlt
      subst hA'
      have q2 : (0 : Int) ≤ ↑p := by omega
      have q3 : (↑p : Int) < ↑m := by omega
      obtain ⟨_, hsub⟩ := Hsub.out _ (List.getElem_mem hpx)
      obtain ⟨j, hj, hpj, _⟩ := plc_lt hsub
      have hjn : j < n := by have := HL.out; omega
      have q4 : (0 : Int) ≤ ↑j := by omega
      have q5 : (↑j : Int) < ↑n := by omega
      have Hst := Lib.hid (tarR_snoc (xs := xs) (T := T) hpx)
      have hFs2 := tarR_take xs T es (p + 1)
      have Hone1 := Lib.hid (fun h => tarOne_dir (T := T) hj hpj h)
      have Hone2 := Lib.hid (fun h => tarOne_file (T := T) hj hpj h)
      have Hrc := Lib.hid (Hrec.out p hpx j hjn hpj)
      have hnm := Hnm.out _ (List.getElem_mem hpx)
      have Hat2 := Lib.hid (fun W hW => Hat.out es[p].d W hW)
      simp only [hpj] at Hat2
      obtain ⟨e, he⟩ : ∃ e, es[p] = e := ⟨_, rfl⟩
      rw [he] at y0 y1 y2 y3 hnm Hst
      simp only [he] at Hat2 Hone1 Hone2
      clear he hsub hpj
      obtain ⟨eh, ei, eS, ed⟩ := e
      simp only at y0 y1 y2 y3 hnm Hst Hat2 Hone1 Hone2
      obtain ⟨_, b', o', A3, c3, hA3, _, z0, z1, z2, z3, z4, _⟩ := (H.out.next BB).at_ hjn
      obtain ⟨rfl, rfl⟩ : b = b' ∧ o = o' := by simpa using hA3
      have hxd := Hdat.out _ (List.getElem_mem hj)
      have hxT := HTs.out _ (List.getElem_mem hj)
      obtain ⟨x, hx⟩ : ∃ x, xs[j] = x := ⟨_, rfl⟩
      rw [hx] at z0 z1 z2 z3 z4 hxd hxT
      simp only [hx] at Hone1 Hone2 Hrc
      clear hx hA3
      obtain ⟨xi, xk, xl, xt, xe⟩ := x
      simp only at z0 z1 z2 z3 z4 hxd hxT Hone1 Hone2 Hrc
      obtain ⟨F, hF⟩ : ∃ F, tarR xs T (es.take p) = F := ⟨_, rfl⟩
      rw [hF] at hFs Hst ⊢
      clear hF
      have hE := Blk.new' wr 72 #[.int .i64 eh, .int .i64 ei, .string eS, .int .i64 ed] wr.heap.size
      have hbE : Below wr.heap.size wr (wr.alloc (.cells #[.int .i64 eh, .int .i64 ei, .string eS, .int .i64 ed] 72)) := belA (bel0 _) _
      have x3 := hE.get (x := .int .i64 ed) 3 rfl
      go_wp2_with fail
--TAR
      obtain ⟨w8, hw8e⟩ : ∃ W, wr.alloc (.cells #[.int .i64 eh, .int .i64 ei, .string eS, .int .i64 ed] 72) = W := ⟨_, rfl⟩
      rw [hw8e]
      have hb8 : Below wr.heap.size wr w8 := by rw [← hw8e]; exact hbE
      have E8 : Blk w8 wr.heap.size 72 #[.int .i64 eh, .int .i64 ei, .string eS, .int .i64 ed] := by rw [← hw8e]; exact hE
      obtain ⟨m3, hm3⟩ : ∃ m3, xe.length = m3 := ⟨_, rfl⟩
      rw [hm3] at z4
      have B8 := belN BB hb8
      have s0 := keep1 hb8 v0 (Nat.le_refl _)
      have s1 := keep1 hb8 v1 (Nat.le_refl _)
      have s2 := E8.get (x := .int .i64 ed) 3 rfl
      have s3 := keep1 hb8 z0 (Nat.le_refl _)
      have s4 := keep1 hb8 z1 (Nat.le_refl _)
      have s5 := keep1 hb8 z2 (Nat.le_refl _)
      have s6 := keep1 hb8 z3 (Nat.le_refl _)
      have s7 := keep1 hb8 z4 (Nat.le_refl _)
      clear hw8e hm3 v0 v1 y0 y1 y2 y3 z0 z1 z2 z3 z4 x3 hE hbE
      go_cut [8] from 19 to 55 (fun p wx => ∃ g : Nat, p = .pointer (some ⟨g, 0, none⟩) ∧ Hid (Blk wx g 70 #[.int .i64 xi, .int .i64 xk, .int .i64 xl, .string xt, .slice A3 m3 c3]) ∧ Below w8.heap.size w8 wx)
      case first =>
        refine wp_region_held_drew (S := fun w' => w'.cell? ⟨w.heap.size, 0, none⟩ = some (.int .i64 nx) ∧ w'.cell? ⟨w.heap.size, 1, none⟩ = some (.slice (some ⟨b, o, none⟩) n c) ∧ w'.cell? ⟨wr.heap.size, 3, none⟩ = some (.int .i64 ed) ∧ w'.cell? ⟨b, o + j * 5, none⟩ = some (.int .i64 xi) ∧ w'.cell? ⟨b, o + j * 5 + 1, none⟩ = some (.int .i64 xk) ∧ w'.cell? ⟨b, o + j * 5 + 2, none⟩ = some (.int .i64 xl) ∧ w'.cell? ⟨b, o + j * 5 + 3, none⟩ = some (.string xt) ∧ w'.cell? ⟨b, o + j * 5 + 4, none⟩ = some (.slice A3 m3 c3)) (by kernel_rfl) (by exact ⟨s0, s1, s2, s3, s4, s5, s6, s7⟩) (fun hHeld => ?_)
        refine foldH ?_
        intro r0 hr0
        have bw0 : Below w8.heap.size w8 r0 := by rw [hr0]; exact (bel0 w8).drew
        clear hr0 hHeld
        refine wpAnyH_take (i := 0) (oi := ?oi1) (v := ?v1) ?hi1 ?hs1 ?hf1 ?hr1 ?hQ1 ?hy1 ?hS1 ?hrest1
        case hi1 => (conv => lhs; simp only [List.getElem?_toArray, List.getElem?_cons_zero]); try exact rfl
        case hs1 => kernel_rfl
        case hf1 => kernel_rfl
        case hr1 => kernel_rfl
        case hQ1 => exact fun _ _ _ h => h
        case hS1 => exact ⟨keep1 (bw0) s0 (Nat.le_refl _), keep1 (bw0) s1 (Nat.le_refl _), keep1 (bw0) s2 (Nat.le_refl _), keep1 (bw0) s3 (Nat.le_refl _), keep1 (bw0) s4 (Nat.le_refl _), keep1 (bw0) s5 (Nat.le_refl _), keep1 (bw0) s6 (Nat.le_refl _), keep1 (bw0) s7 (Nat.le_refl _)⟩
        case hy1 => refine Or.inl ⟨by rfl, ?_⟩; intro w hSw; (try dsimp only at hSw); go_simp; (try with_reducible rfl)
        simp only [Act.put, List.setIfInBounds_toArray, List.set_cons_zero, List.set_cons_succ]
        refine wpAnyH_take (i := 1) (oi := ?oi2) (v := ?v2) ?hi2 ?hs2 ?hf2 ?hr2 ?hQ2 ?hy2 ?hS2 ?hrest2
        case hi2 => (conv => lhs; simp only [List.getElem?_toArray, List.getElem?_cons_zero, List.getElem?_cons_succ]); try exact rfl
        case hs2 => kernel_rfl
        case hf2 => kernel_rfl
        case hr2 => kernel_rfl
        case hQ2 => exact fun _ _ _ h => h
        case hS2 => exact ⟨keep1 (bw0) s0 (Nat.le_refl _), keep1 (bw0) s1 (Nat.le_refl _), keep1 (bw0) s2 (Nat.le_refl _), keep1 (bw0) s3 (Nat.le_refl _), keep1 (bw0) s4 (Nat.le_refl _), keep1 (bw0) s5 (Nat.le_refl _), keep1 (bw0) s6 (Nat.le_refl _), keep1 (bw0) s7 (Nat.le_refl _)⟩
        case hy2 => refine Or.inl ⟨by rfl, ?_⟩; intro w hSw; (try dsimp only at hSw); go_simp; (try with_reducible rfl)
        simp only [Act.put, List.setIfInBounds_toArray, List.set_cons_zero, List.set_cons_succ]
        refine wpAnyH_take (i := 2) (oi := ?oi3) (v := ?v3) ?hi3 ?hs3 ?hf3 ?hr3 ?hQ3 ?hy3 ?hS3 ?hrest3
        case hi3 => (conv => lhs; simp only [List.getElem?_toArray, List.getElem?_cons_zero, List.getElem?_cons_succ]); try exact rfl
        case hs3 => kernel_rfl
        case hf3 => kernel_rfl
        case hr3 => kernel_rfl
        case hQ3 => exact fun _ _ _ h => h
        case hS3 => exact ⟨keep1 (bw0) s0 (Nat.le_refl _), keep1 (bw0) s1 (Nat.le_refl _), keep1 (bw0) s2 (Nat.le_refl _), keep1 (bw0) s3 (Nat.le_refl _), keep1 (bw0) s4 (Nat.le_refl _), keep1 (bw0) s5 (Nat.le_refl _), keep1 (bw0) s6 (Nat.le_refl _), keep1 (bw0) s7 (Nat.le_refl _)⟩
        case hy3 => refine Or.inl ⟨by rfl, ?_⟩; intro w hSw; (try dsimp only at hSw); go_simp; (try with_reducible rfl)
        simp only [Act.put, List.setIfInBounds_toArray, List.set_cons_zero, List.set_cons_succ]
        refine wpAnyH_take (i := 3) (oi := ?oi4) (v := ?v4) ?hi4 ?hs4 ?hf4 ?hr4 ?hQ4 ?hy4 ?hS4 ?hrest4
        case hi4 => (conv => lhs; simp only [List.getElem?_toArray, List.getElem?_cons_zero, List.getElem?_cons_succ]); try exact rfl
        case hs4 => kernel_rfl
        case hf4 => kernel_rfl
        case hr4 => kernel_rfl
        case hQ4 => exact fun _ _ _ h => h
        case hS4 => exact ⟨keep1 (bw0) s0 (Nat.le_refl _), keep1 (bw0) s1 (Nat.le_refl _), keep1 (bw0) s2 (Nat.le_refl _), keep1 (bw0) s3 (Nat.le_refl _), keep1 (bw0) s4 (Nat.le_refl _), keep1 (bw0) s5 (Nat.le_refl _), keep1 (bw0) s6 (Nat.le_refl _), keep1 (bw0) s7 (Nat.le_refl _)⟩
        case hy4 => refine Or.inl ⟨by rfl, ?_⟩; intro w hSw; (try dsimp only at hSw); go_simp; (try with_reducible rfl)
        simp only [Act.put, List.setIfInBounds_toArray, List.set_cons_zero, List.set_cons_succ]
        refine wpAnyH_take (i := 4) (oi := ?oi5) (v := ?v5) ?hi5 ?hs5 ?hf5 ?hr5 ?hQ5 ?hy5 ?hS5 ?hrest5
        case hi5 => (conv => lhs; simp only [List.getElem?_toArray, List.getElem?_cons_zero, List.getElem?_cons_succ]); try exact rfl
        case hs5 => kernel_rfl
        case hf5 => kernel_rfl
        case hr5 => kernel_rfl
        case hQ5 => exact fun _ _ _ h => h
        case hS5 => exact ⟨keep1 (bw0) s0 (Nat.le_refl _), keep1 (bw0) s1 (Nat.le_refl _), keep1 (bw0) s2 (Nat.le_refl _), keep1 (bw0) s3 (Nat.le_refl _), keep1 (bw0) s4 (Nat.le_refl _), keep1 (bw0) s5 (Nat.le_refl _), keep1 (bw0) s6 (Nat.le_refl _), keep1 (bw0) s7 (Nat.le_refl _)⟩
        case hy5 => refine Or.inl ⟨by rfl, ?_⟩; intro w hSw; (try dsimp only at hSw); go_simp; (try with_reducible rfl)
        simp only [Act.put, List.setIfInBounds_toArray, List.set_cons_zero, List.set_cons_succ]
        refine wpAnyH_ready (rs := [5, 8]) (by kernel_rfl) (by simp) ?_
        refine AllReadyH.cons (o := ?oi6) ?hi6 (fun K hK => ?br6) (AllReadyH.cons (o := ?oi7) ?hi7 (fun K hK => ?br7) AllReadyH.nil)
        case hi6 => (conv => lhs; simp only [List.getElem?_toArray, List.getElem?_cons_zero, List.getElem?_cons_succ]); try exact rfl
        case hi7 => (conv => lhs; simp only [List.getElem?_toArray, List.getElem?_cons_zero, List.getElem?_cons_succ]); try exact rfl
        case br6 =>
          go_simp
          go_at_call 67
          refine (Hat2.out _ (hvv.out.next (belN B8 bw0)).is).mono ?_
          rintro e r1 ⟨rfl, hb1r⟩
          have bw1 : Below w8.heap.size w8 r1 := bw0.trans (hb1r.mono bw0.size)
          refine hK.out _ _ (by exact ⟨keep1 (bw1) s0 (Nat.le_refl _), keep1 (bw1) s1 (Nat.le_refl _), keep1 (bw1) s2 (Nat.le_refl _), keep1 (bw1) s3 (Nat.le_refl _), keep1 (bw1) s4 (Nat.le_refl _), keep1 (bw1) s5 (Nat.le_refl _), keep1 (bw1) s6 (Nat.le_refl _), keep1 (bw1) s7 (Nat.le_refl _)⟩) (fun _ => ?_)
          clear hK K
          refine wpAnyH_take (i := 6) (oi := ?oi8) (v := ?v8) ?hi8 ?hs8 ?hf8 ?hr8 ?hQ8 ?hy8 ?hS8 ?hrest8
          case hi8 => (conv => lhs; simp only [List.getElem?_toArray, List.getElem?_cons_zero, List.getElem?_cons_succ]); try exact rfl
          case hs8 => kernel_rfl
          case hf8 => kernel_rfl
          case hr8 => kernel_rfl
          case hQ8 => exact fun _ _ _ h => h
          case hS8 => exact ⟨keep1 (bw1) s0 (Nat.le_refl _), keep1 (bw1) s1 (Nat.le_refl _), keep1 (bw1) s2 (Nat.le_refl _), keep1 (bw1) s3 (Nat.le_refl _), keep1 (bw1) s4 (Nat.le_refl _), keep1 (bw1) s5 (Nat.le_refl _), keep1 (bw1) s6 (Nat.le_refl _), keep1 (bw1) s7 (Nat.le_refl _)⟩
          case hy8 => refine Or.inl ⟨by rfl, ?_⟩; intro w hSw; (try dsimp only at hSw); go_simp; (try with_reducible rfl)
          simp only [Act.put, List.setIfInBounds_toArray, List.set_cons_zero, List.set_cons_succ]
          refine wpAnyH_take (i := 7) (oi := ?oi9) (v := ?v9) ?hi9 ?hs9 ?hf9 ?hr9 ?hQ9 ?hy9 ?hS9 ?hrest9
          case hi9 => (conv => lhs; simp only [List.getElem?_toArray, List.getElem?_cons_zero, List.getElem?_cons_succ]); try exact rfl
          case hs9 => kernel_rfl
          case hf9 => kernel_rfl
          case hr9 => kernel_rfl
          case hQ9 => exact fun _ _ _ h => h
          case hS9 => exact ⟨keep1 (bw1) s0 (Nat.le_refl _), keep1 (bw1) s1 (Nat.le_refl _), keep1 (bw1) s2 (Nat.le_refl _), keep1 (bw1) s3 (Nat.le_refl _), keep1 (bw1) s4 (Nat.le_refl _), keep1 (bw1) s5 (Nat.le_refl _), keep1 (bw1) s6 (Nat.le_refl _), keep1 (bw1) s7 (Nat.le_refl _)⟩
          case hy9 => refine Or.inl ⟨by rfl, ?_⟩; intro w hSw; (try dsimp only at hSw); go_simp; (try with_reducible rfl)
          simp only [Act.put, List.setIfInBounds_toArray, List.set_cons_zero, List.set_cons_succ]
          refine wpAnyH_ready (rs := [8]) (by kernel_rfl) (by simp) ?_
          refine AllReadyH.cons (o := ?oi10) ?hi10 (fun K hK => ?br10) AllReadyH.nil
          case hi10 => (conv => lhs; simp only [List.getElem?_toArray, List.getElem?_cons_zero, List.getElem?_cons_succ]); try exact rfl
          case br10 =>
            go_simp
            refine hK.out _ _ (by exact ⟨keep1 (belA bw1 (.cells #[.int .i64 0, .int .i64 0, .int .i64 0, .string ⟨#[]⟩, .slice none 0 0] 70)) s0 (Nat.le_refl _), keep1 (belA bw1 (.cells #[.int .i64 0, .int .i64 0, .int .i64 0, .string ⟨#[]⟩, .slice none 0 0] 70)) s1 (Nat.le_refl _), keep1 (belA bw1 (.cells #[.int .i64 0, .int .i64 0, .int .i64 0, .string ⟨#[]⟩, .slice none 0 0] 70)) s2 (Nat.le_refl _), keep1 (belA bw1 (.cells #[.int .i64 0, .int .i64 0, .int .i64 0, .string ⟨#[]⟩, .slice none 0 0] 70)) s3 (Nat.le_refl _), keep1 (belA bw1 (.cells #[.int .i64 0, .int .i64 0, .int .i64 0, .string ⟨#[]⟩, .slice none 0 0] 70)) s4 (Nat.le_refl _), keep1 (belA bw1 (.cells #[.int .i64 0, .int .i64 0, .int .i64 0, .string ⟨#[]⟩, .slice none 0 0] 70)) s5 (Nat.le_refl _), keep1 (belA bw1 (.cells #[.int .i64 0, .int .i64 0, .int .i64 0, .string ⟨#[]⟩, .slice none 0 0] 70)) s6 (Nat.le_refl _), keep1 (belA bw1 (.cells #[.int .i64 0, .int .i64 0, .int .i64 0, .string ⟨#[]⟩, .slice none 0 0] 70)) s7 (Nat.le_refl _)⟩) (fun _ => ?_)
            clear hK K
            refine foldH ?_
            intro r2 hr2
            have bw2 : Below w8.heap.size w8 r2 := by rw [hr2]; exact belA bw1 _
            have kX2 : Blk r2 r1.heap.size 70 #[.int .i64 0, .int .i64 0, .int .i64 0, .string ⟨#[]⟩, .slice none 0 0] := by rw [hr2]; exact Blk.new' _ _ _ _ rfl
            have laX2 : w8.heap.size ≤ r1.heap.size := bw1.size
            clear hr2
            refine wpAnyH_ready (rs := [9]) (by kernel_rfl) (by simp) ?_
            refine AllReadyH.cons (o := ?oi11) ?hi11 (fun K hK => ?br11) AllReadyH.nil
            case hi11 => (conv => lhs; simp only [List.getElem?_toArray, List.getElem?_cons_zero, List.getElem?_cons_succ]); try exact rfl
            case br11 =>
              have x0 := kX2.get (x := .int .i64 0) 0 rfl
              have f0 := kX2.frozen 0
              have x1 := kX2.get (x := .int .i64 0) 1 rfl
              have f1 := kX2.frozen 1
              have x2 := kX2.get (x := .int .i64 0) 2 rfl
              have f2 := kX2.frozen 2
              have x3 := kX2.get (x := .string ⟨#[]⟩) 3 rfl
              have f3 := kX2.frozen 3
              have x4 := kX2.get (x := .slice none 0 0) 4 rfl
              have f4 := kX2.frozen 4
              have lE := kX2.lt
              go_simp
              refine hK.out _ _ (by exact ⟨keep1 (belC (belC (belC (belC (belC (bw2) _ _ laX2 _) _ _ laX2 _) _ _ laX2 _) _ _ laX2 _) _ _ laX2 _) s0 (Nat.le_refl _), keep1 (belC (belC (belC (belC (belC (bw2) _ _ laX2 _) _ _ laX2 _) _ _ laX2 _) _ _ laX2 _) _ _ laX2 _) s1 (Nat.le_refl _), keep1 (belC (belC (belC (belC (belC (bw2) _ _ laX2 _) _ _ laX2 _) _ _ laX2 _) _ _ laX2 _) _ _ laX2 _) s2 (Nat.le_refl _), keep1 (belC (belC (belC (belC (belC (bw2) _ _ laX2 _) _ _ laX2 _) _ _ laX2 _) _ _ laX2 _) _ _ laX2 _) s3 (Nat.le_refl _), keep1 (belC (belC (belC (belC (belC (bw2) _ _ laX2 _) _ _ laX2 _) _ _ laX2 _) _ _ laX2 _) _ _ laX2 _) s4 (Nat.le_refl _), keep1 (belC (belC (belC (belC (belC (bw2) _ _ laX2 _) _ _ laX2 _) _ _ laX2 _) _ _ laX2 _) _ _ laX2 _) s5 (Nat.le_refl _), keep1 (belC (belC (belC (belC (belC (bw2) _ _ laX2 _) _ _ laX2 _) _ _ laX2 _) _ _ laX2 _) _ _ laX2 _) s6 (Nat.le_refl _), keep1 (belC (belC (belC (belC (belC (bw2) _ _ laX2 _) _ _ laX2 _) _ _ laX2 _) _ _ laX2 _) _ _ laX2 _) s7 (Nat.le_refl _)⟩) (fun _ => ?_)
              clear hK K x0 f0 x1 f1 x2 f2 x3 f3 x4 f4 lE
              refine foldH ?_
              intro r3 hr3
              have bw3 : Below w8.heap.size w8 r3 := by rw [hr3]; exact belC (belC (belC (belC (belC (bw2) _ _ laX2 _) _ _ laX2 _) _ _ laX2 _) _ _ laX2 _) _ _ laX2 _
              have kX3 : Blk r3 r1.heap.size 70 #[.int .i64 xi, .int .i64 xk, .int .i64 xl, .string xt, .slice A3 m3 c3] := by rw [hr3]; exact (((((kX2).put 0 _ _ rfl).put 1 _ _ rfl).put 2 _ _ rfl).put 3 _ _ rfl).put 4 _ _ rfl
              clear hr3
              refine wpAnyH_done (by kernel_rfl) ?_ _
              go_wp2_with fail
              go_meet
              case rel => exact ⟨_, rfl, kX3, bw3⟩
        case br7 =>
          go_simp
          refine hK.out _ _ (by exact ⟨keep1 (belA bw0 (.cells #[.int .i64 0, .int .i64 0, .int .i64 0, .string ⟨#[]⟩, .slice none 0 0] 70)) s0 (Nat.le_refl _), keep1 (belA bw0 (.cells #[.int .i64 0, .int .i64 0, .int .i64 0, .string ⟨#[]⟩, .slice none 0 0] 70)) s1 (Nat.le_refl _), keep1 (belA bw0 (.cells #[.int .i64 0, .int .i64 0, .int .i64 0, .string ⟨#[]⟩, .slice none 0 0] 70)) s2 (Nat.le_refl _), keep1 (belA bw0 (.cells #[.int .i64 0, .int .i64 0, .int .i64 0, .string ⟨#[]⟩, .slice none 0 0] 70)) s3 (Nat.le_refl _), keep1 (belA bw0 (.cells #[.int .i64 0, .int .i64 0, .int .i64 0, .string ⟨#[]⟩, .slice none 0 0] 70)) s4 (Nat.le_refl _), keep1 (belA bw0 (.cells #[.int .i64 0, .int .i64 0, .int .i64 0, .string ⟨#[]⟩, .slice none 0 0] 70)) s5 (Nat.le_refl _), keep1 (belA bw0 (.cells #[.int .i64 0, .int .i64 0, .int .i64 0, .string ⟨#[]⟩, .slice none 0 0] 70)) s6 (Nat.le_refl _), keep1 (belA bw0 (.cells #[.int .i64 0, .int .i64 0, .int .i64 0, .string ⟨#[]⟩, .slice none 0 0] 70)) s7 (Nat.le_refl _)⟩) (fun _ => ?_)
          clear hK K
          refine foldH ?_
          intro r1 hr1
          have bw1 : Below w8.heap.size w8 r1 := by rw [hr1]; exact belA bw0 _
          have kX1 : Blk r1 r0.heap.size 70 #[.int .i64 0, .int .i64 0, .int .i64 0, .string ⟨#[]⟩, .slice none 0 0] := by rw [hr1]; exact Blk.new' _ _ _ _ rfl
          have laX1 : w8.heap.size ≤ r0.heap.size := bw0.size
          clear hr1
          refine wpAnyH_ready (rs := [5]) (by kernel_rfl) (by simp) ?_
          refine AllReadyH.cons (o := ?oi12) ?hi12 (fun K hK => ?br12) AllReadyH.nil
          case hi12 => (conv => lhs; simp only [List.getElem?_toArray, List.getElem?_cons_zero, List.getElem?_cons_succ]); try exact rfl
          case br12 =>
            go_simp
            go_at_call 67
            refine (Hat2.out _ (hvv.out.next (belN B8 bw1)).is).mono ?_
            rintro e r2 ⟨rfl, hb2r⟩
            have bw2 : Below w8.heap.size w8 r2 := bw1.trans (hb2r.mono bw1.size)
            refine hK.out _ _ (by exact ⟨keep1 (bw2) s0 (Nat.le_refl _), keep1 (bw2) s1 (Nat.le_refl _), keep1 (bw2) s2 (Nat.le_refl _), keep1 (bw2) s3 (Nat.le_refl _), keep1 (bw2) s4 (Nat.le_refl _), keep1 (bw2) s5 (Nat.le_refl _), keep1 (bw2) s6 (Nat.le_refl _), keep1 (bw2) s7 (Nat.le_refl _)⟩) (fun _ => ?_)
            clear hK K
            have kX2 := kX1.below hb2r kX1.lt
            refine wpAnyH_take (i := 6) (oi := ?oi13) (v := ?v13) ?hi13 ?hs13 ?hf13 ?hr13 ?hQ13 ?hy13 ?hS13 ?hrest13
            case hi13 => (conv => lhs; simp only [List.getElem?_toArray, List.getElem?_cons_zero, List.getElem?_cons_succ]); try exact rfl
            case hs13 => kernel_rfl
            case hf13 => kernel_rfl
            case hr13 => kernel_rfl
            case hQ13 => exact fun _ _ _ h => h
            case hS13 => exact ⟨keep1 (bw2) s0 (Nat.le_refl _), keep1 (bw2) s1 (Nat.le_refl _), keep1 (bw2) s2 (Nat.le_refl _), keep1 (bw2) s3 (Nat.le_refl _), keep1 (bw2) s4 (Nat.le_refl _), keep1 (bw2) s5 (Nat.le_refl _), keep1 (bw2) s6 (Nat.le_refl _), keep1 (bw2) s7 (Nat.le_refl _)⟩
            case hy13 => refine Or.inl ⟨by rfl, ?_⟩; intro w hSw; (try dsimp only at hSw); go_simp; (try with_reducible rfl)
            simp only [Act.put, List.setIfInBounds_toArray, List.set_cons_zero, List.set_cons_succ]
            refine wpAnyH_take (i := 7) (oi := ?oi14) (v := ?v14) ?hi14 ?hs14 ?hf14 ?hr14 ?hQ14 ?hy14 ?hS14 ?hrest14
            case hi14 => (conv => lhs; simp only [List.getElem?_toArray, List.getElem?_cons_zero, List.getElem?_cons_succ]); try exact rfl
            case hs14 => kernel_rfl
            case hf14 => kernel_rfl
            case hr14 => kernel_rfl
            case hQ14 => exact fun _ _ _ h => h
            case hS14 => exact ⟨keep1 (bw2) s0 (Nat.le_refl _), keep1 (bw2) s1 (Nat.le_refl _), keep1 (bw2) s2 (Nat.le_refl _), keep1 (bw2) s3 (Nat.le_refl _), keep1 (bw2) s4 (Nat.le_refl _), keep1 (bw2) s5 (Nat.le_refl _), keep1 (bw2) s6 (Nat.le_refl _), keep1 (bw2) s7 (Nat.le_refl _)⟩
            case hy14 => refine Or.inl ⟨by rfl, ?_⟩; intro w hSw; (try dsimp only at hSw); go_simp; (try with_reducible rfl)
            simp only [Act.put, List.setIfInBounds_toArray, List.set_cons_zero, List.set_cons_succ]
            refine wpAnyH_ready (rs := [9]) (by kernel_rfl) (by simp) ?_
            refine AllReadyH.cons (o := ?oi15) ?hi15 (fun K hK => ?br15) AllReadyH.nil
            case hi15 => (conv => lhs; simp only [List.getElem?_toArray, List.getElem?_cons_zero, List.getElem?_cons_succ]); try exact rfl
            case br15 =>
              have x0 := kX2.get (x := .int .i64 0) 0 rfl
              have f0 := kX2.frozen 0
              have x1 := kX2.get (x := .int .i64 0) 1 rfl
              have f1 := kX2.frozen 1
              have x2 := kX2.get (x := .int .i64 0) 2 rfl
              have f2 := kX2.frozen 2
              have x3 := kX2.get (x := .string ⟨#[]⟩) 3 rfl
              have f3 := kX2.frozen 3
              have x4 := kX2.get (x := .slice none 0 0) 4 rfl
              have f4 := kX2.frozen 4
              have lE := kX2.lt
              go_simp
              refine hK.out _ _ (by exact ⟨keep1 (belC (belC (belC (belC (belC (bw2) _ _ laX1 _) _ _ laX1 _) _ _ laX1 _) _ _ laX1 _) _ _ laX1 _) s0 (Nat.le_refl _), keep1 (belC (belC (belC (belC (belC (bw2) _ _ laX1 _) _ _ laX1 _) _ _ laX1 _) _ _ laX1 _) _ _ laX1 _) s1 (Nat.le_refl _), keep1 (belC (belC (belC (belC (belC (bw2) _ _ laX1 _) _ _ laX1 _) _ _ laX1 _) _ _ laX1 _) _ _ laX1 _) s2 (Nat.le_refl _), keep1 (belC (belC (belC (belC (belC (bw2) _ _ laX1 _) _ _ laX1 _) _ _ laX1 _) _ _ laX1 _) _ _ laX1 _) s3 (Nat.le_refl _), keep1 (belC (belC (belC (belC (belC (bw2) _ _ laX1 _) _ _ laX1 _) _ _ laX1 _) _ _ laX1 _) _ _ laX1 _) s4 (Nat.le_refl _), keep1 (belC (belC (belC (belC (belC (bw2) _ _ laX1 _) _ _ laX1 _) _ _ laX1 _) _ _ laX1 _) _ _ laX1 _) s5 (Nat.le_refl _), keep1 (belC (belC (belC (belC (belC (bw2) _ _ laX1 _) _ _ laX1 _) _ _ laX1 _) _ _ laX1 _) _ _ laX1 _) s6 (Nat.le_refl _), keep1 (belC (belC (belC (belC (belC (bw2) _ _ laX1 _) _ _ laX1 _) _ _ laX1 _) _ _ laX1 _) _ _ laX1 _) s7 (Nat.le_refl _)⟩) (fun _ => ?_)
              clear hK K x0 f0 x1 f1 x2 f2 x3 f3 x4 f4 lE
              refine foldH ?_
              intro r3 hr3
              have bw3 : Below w8.heap.size w8 r3 := by rw [hr3]; exact belC (belC (belC (belC (belC (bw2) _ _ laX1 _) _ _ laX1 _) _ _ laX1 _) _ _ laX1 _) _ _ laX1 _
              have kX3 : Blk r3 r0.heap.size 70 #[.int .i64 xi, .int .i64 xk, .int .i64 xl, .string xt, .slice A3 m3 c3] := by rw [hr3]; exact (((((kX2).put 0 _ _ rfl).put 1 _ _ rfl).put 2 _ _ rfl).put 3 _ _ rfl).put 4 _ _ rfl
              clear hr3
              refine wpAnyH_done (by kernel_rfl) ?_ _
              go_wp2_with fail
              go_meet
              case rel => exact ⟨_, rfl, kX3, bw3⟩
      case rest =>
        obtain ⟨g, rfl, hG, hb9⟩ := hcut
        have B9 := belN hb8 hb9
        have BB9 := belN BB B9
        have E9 := E8.below hb9 E8.lt
        have V0' := keep1 hb9 s0 (Nat.le_refl _)
        have V1' := keep1 hb9 s1 (Nat.le_refl _)
        clear s0 s1 s2 s3 s4 s5 s6 s7 E8
        have g0 := hG.out.get (x := .int .i64 xi) 0 rfl
        have g1 := hG.out.get (x := .int .i64 xk) 1 rfl
        have g3 := hG.out.get (x := .string xt) 3 rfl
        have y2 := E9.get (x := .string eS) 2 rfl
        have hv9 := Lib.hid (hvv.out.next BB9)
        have h1 := pieceB_size eS
        have h2 := pieceB_size xt
        have hbelw := belN hbel B9
        by_cases hxd : xk = 2
        · subst hxd
          have Hr := Lib.hid (Hrc.out rfl)
          have hon := Hone1.out rfl
          have hTx := hxT rfl
          rw [hon] at Hst
          obtain ⟨T1, hT1⟩ : ∃ T1, T xi = T1 := ⟨_, rfl⟩
          simp only [hT1] at Hr Hst hTx
          clear hT1 hon Hone1 Hone2 hxT Hrc
          have u1 : ¬ 9223372036854775807 < F.size + 1 := by omega
          have u2 : ¬ 9223372036854775807 < F.size + 1 + (pieceB eS).size := by omega
          have u3 : ¬ 9223372036854775807 < F.size + 1 + (pieceB eS).size + T1.size := by omega
          have u4 : ¬ 9223372036854775807 < F.size + 1 + (pieceB eS).size + T1.size + 1 := by omega
          have hs1 := str1_size 100
          have hs2 := str1_size 101
          go_wp2_with fail
          go_region_held3 (fun w' => w'.cell? ⟨w.heap.size, 0, none⟩ = some (.int .i64 nx) ∧ w'.cell? ⟨w.heap.size, 1, none⟩ = some (.slice (some ⟨b, o, none⟩) n c) ∧ w'.cell? ⟨wr.heap.size, 2, none⟩ = some (.string eS) ∧ w'.cell? ⟨g, 0, none⟩ = some (.int .i64 xi))
            (first | go_keep | (refine ⟨keep1 hb10 ?_, keep1 hb10 ?_, keep1 hb10 ?_, keep1 hb10 ?_⟩ <;> go_keep) | (refine ⟨keep1 hb11 ?_, keep1 hb11 ?_, keep1 hb11 ?_, keep1 hb11 ?_⟩ <;> go_keep))
            (first
              | (go_at_call 139; refine (piece_impl eS (by omega) _).mono ?_; rintro e w10 ⟨rfl, hb10⟩; have hB10 := belN (bel0 wc).drew hb10)
              | (go_at_call 69; refine (Hr.out _ (hv9.out.next hB10)).mono ?_; rintro e w11 ⟨rfl, hb11⟩; have hB11 := belN hB10 hb11))
          go_wp2
          go_roundw
          case rel => exact ⟨p + 1, by omega, by go_num, by rw [Hst.out, tar_step_dir], belN hbelw hB11⟩
          case measure => simp [intOf]; omega
        · have hon := Hone2.out hxd
          rw [hon] at Hst
          clear hon Hone1 Hone2 hxT Hrc
          have hx9 : (xk == 2) = false := by simpa using hxd
          have u1 : ¬ 9223372036854775807 < F.size + 1 := by omega
          have u2 : ¬ 9223372036854775807 < F.size + 1 + (pieceB eS).size := by omega
          have u3 : ¬ 9223372036854775807 < F.size + 1 + (pieceB eS).size + (pieceB xt).size := by omega
          have hs1 := str1_size 102
          clear hxd
          go_wp2_with fail
          go_region_held3 (fun w' => w'.cell? ⟨wr.heap.size, 2, none⟩ = some (.string eS) ∧ w'.cell? ⟨g, 3, none⟩ = some (.string xt))
            (first | go_keep | (refine ⟨keep1 hb10 ?_, keep1 hb10 ?_⟩ <;> go_keep) | (refine ⟨keep1 hb11 ?_, keep1 hb11 ?_⟩ <;> go_keep))
            (first
              | (go_at_call 139; refine (piece_impl eS (by omega) _).mono ?_; rintro e w10 ⟨rfl, hb10⟩; have hB10 := belN (bel0 wc).drew hb10)
              | (go_at_call 139; refine (piece_impl xt (by omega) _).mono ?_; rintro e w11 ⟨rfl, hb11⟩; have hB11 := belN hB10 hb11))
          go_wp2
          go_roundw
          case rel => exact ⟨p + 1, by omega, by go_num, by rw [Hst.out, tar_step_file], belN hbelw hB11⟩
          case measure => simp [intOf]; omega
--RAT
    · obtain rfl : p = m := by omega
      have Hf := Lib.hid (show tarR xs T (es.take p) = tarR xs T es by rw [List.take_of_length_le (by have := HM.out; omega)])
      rw [Hf.out]
      clear v0 v1
      go_wp2
      go_ret
      exact ⟨rfl, BB⟩

set_option maxRecDepth 100000 in
set_option maxHeartbeats 8000000 in
theorem l27_gen (v : Value) (V : VolD) (sm : szV V ≤ 1048576) (hv : VolP V.nx V.xs) (T : Int → ByteArray) (a : Int) (k : Nat) (hk : k < V.xs.length) (hpl : plc V.xs a = (k : Int)) (hT : ∀ x ∈ V.xs, x.kd = 2 → (T x.id).size ≤ 320000) (hsz : (tarR V.xs T V.xs[k].es).size ≤ 320000)
    (hrec : ∀ (i : Nat) (hi : i < V.xs[k].es.length) (j : Nat) (hj : j < V.xs.length), plc V.xs V.xs[k].es[i].d = (j : Int) → V.xs[j].kd = 2 → ∀ W, IsVolC W v V → Calls Tryz.prog 68 #[v, .int .i64 V.xs[j].id] W fun e w' => e = .returned (.string (T V.xs[j].id)) ∧ Below W.heap.size W w')
    (w : World) (hC : IsVolC w v V) :
    Calls Tryz.prog 68 #[v, .int .i64 a] w fun e w' => e = .returned (.string (tarR V.xs T V.xs[k].es)) ∧ Below w.heap.size w w' := by
  have hn := v_len sm
  have Hat := Lib.hid (fun a W hW => l6At_any v V hn a W hW)
  have hrn := v_rows sm _ (List.getElem_mem hk)
  have Hsub := Lib.hid (fun e he => hv.not1 (List.getElem_mem hk) (e := e) he)
  have Hnm := Lib.hid (fun e he => es_name hv (List.getElem_mem hk) (e := e) he)
  have Hdat := Lib.hid (fun x hx => ino_data hv (x := x) hx)
  have HTs := Lib.hid hT
  have Hrec := Lib.hid hrec
  have hvv := Lib.hid hC
  have h := hC.is
  obtain ⟨A, c, rfl, h⟩ := h
  obtain ⟨nx, xs⟩ := V
  simp only at Hat Hsub Hnm Hdat HTs Hrec hrn hk hpl hn hsz h ⊢
  have H := Lib.hid h
  clear h hC hT hrec sm hv
  obtain ⟨es, hes⟩ : ∃ es, xs[k].es = es := ⟨_, rfl⟩
  have HE := Lib.hid hes
  simp only [hes] at Hsub Hnm Hrec hrn hsz ⊢
  obtain ⟨m, hm⟩ : ∃ m, es.length = m := ⟨_, rfl⟩
  have HM := Lib.hid hm
  rw [hm] at hrn
  clear hm
  obtain ⟨n, hn'⟩ : ∃ n, xs.length = n := ⟨_, rfl⟩
  have HL := Lib.hid hn'
  have hkn : k < n := by omega
  simp only [hn'] at Hat hvv H hn Hrec
  have q0 : (0 : Int) ≤ ↑k := by omega
  have q1 : (↑k : Int) < ↑n := by omega
  obtain ⟨W1, hW1⟩ : ∃ W1, w.alloc (.cells #[.int .i64 nx, .slice A n c] 30) = W1 := ⟨_, rfl⟩
  have B1 : Below w.heap.size w W1 := by rw [← hW1]; exact belA (bel0 w) _
  have hV : Blk W1 w.heap.size 30 #[.int .i64 nx, .slice A n c] := by rw [← hW1]; exact Blk.new' _ _ _ _ rfl
  have S1 := hV.lt
  have HW1 := Lib.hid hW1
  have v0 := hV.get 0 rfl
  have v1 := hV.get 1 rfl
  have V0 := Lib.hid v0
  have V1 := Lib.hid v1
  clear hW1 hV
  obtain ⟨_, b, o, A', c', hA, hadb, _, _, _, _, z4', hrow⟩ := H.out.at_ hkn
  subst hA
  have z4 := keep1 B1 z4' (Nat.le_refl _)
  rw [HE.out, HM.out] at z4
  rw [HE.out, HM.out] at hrow
  have Hrow := Lib.hid hrow
  clear z4' hrow
  have Hat1 := Lib.hid (fun W hW => Hat.out a W hW)
  simp only [hpl] at Hat1
  go_enter Tryz.func68, Tryz.ntmps68
  go_wp2_with fail
  rw [HW1.out]
  go_region_held3 (fun w' => w'.cell? ⟨w.heap.size, 0, none⟩ = some (.int .i64 nx) ∧ w'.cell? ⟨w.heap.size, 1, none⟩ = some (.slice (some ⟨b, o, none⟩) n c) ∧ w'.cell? ⟨b, o + k * 5 + 4, none⟩ = some (.slice A' m c'))
    (first | go_keep | (refine ⟨keep1 hb5 ?_, keep1 hb5 ?_, keep1 hb5 ?_⟩ <;> go_keep))
    (first | (go_at_call 66; refine (Hat1.out _ (hvv.out.next B1.drew).is).mono ?_; rintro e w5 ⟨rfl, hb5⟩))
  have V0 := Lib.hid (keep1 hb5 (show W1.drew.cell? _ = _ from V0.out) (Nat.le_refl _))
  have V1 := Lib.hid (keep1 hb5 (show W1.drew.cell? _ = _ from V1.out) (Nat.le_refl _))
  have B5 := belN B1.drew hb5
  have S5 : w.heap.size < w5.heap.size := Nat.lt_of_lt_of_le S1 hb5.size
  clear v0 v1 z4
  go_wp2
  go_loopw [5, 7] (fun x i wr => ∃ (p : Nat), p ≤ m ∧ i = .int .i64 p ∧ x = .string (tarR xs T (es.take p)) ∧ Below w5.heap.size w5 wr)
    (fun _ i _ => m - (intOf i).toNat)
  case atStart => exact ⟨0, by omega, rfl, by rw [List.take_zero]; rfl, bel0 w5⟩
  case round =>
    obtain ⟨p, hp, rfl, rfl, hbel⟩ := hrel
    have v0 := keep1 hbel V0.out (Nat.le_refl _)
    have v1 := keep1 hbel V1.out (Nat.le_refl _)
    have BB := belN B5 hbel
    have hFs := tarR_take xs T es p
    by_cases hlt : p < m
    · obtain ⟨hpx, b2, o2, hA', hadb2, y0, y1, y2, y3⟩ := reads_ent (Hrow.out.below BB) hlt
      subst hA'
      have q2 : (0 : Int) ≤ ↑p := by omega
      have q3 : (↑p : Int) < ↑m := by omega
      obtain ⟨_, hsub⟩ := Hsub.out _ (List.getElem_mem hpx)
      obtain ⟨j, hj, hpj, _⟩ := plc_lt hsub
      have hjn : j < n := by have := HL.out; omega
      have q4 : (0 : Int) ≤ ↑j := by omega
      have q5 : (↑j : Int) < ↑n := by omega
      have Hst := Lib.hid (tarR_snoc (xs := xs) (T := T) hpx)
      have hFs2 := tarR_take xs T es (p + 1)
      have Hone1 := Lib.hid (fun h => tarOne_dir (T := T) hj hpj h)
      have Hone2 := Lib.hid (fun h => tarOne_file (T := T) hj hpj h)
      have Hrc := Lib.hid (Hrec.out p hpx j hjn hpj)
      have hxi := plc_inj hj hpj
      have hnm := Hnm.out _ (List.getElem_mem hpx)
      have Hat2 := Lib.hid (fun W hW => Hat.out es[p].d W hW)
      simp only [hpj] at Hat2
      obtain ⟨e, he⟩ : ∃ e, es[p] = e := ⟨_, rfl⟩
      rw [he] at y0 y1 y2 y3 hnm Hst hxi
      simp only [he] at Hat2 Hone1 Hone2
      clear he hsub hpj
      obtain ⟨eh, ei, eS, ed⟩ := e
      simp only at y0 y1 y2 y3 hnm Hst Hat2 Hone1 Hone2
      obtain ⟨_, b', o', A3, c3, hA3, _, z0, z1, z2, z3, z4, _⟩ := (H.out.next BB).at_ hjn
      obtain ⟨rfl, rfl⟩ : b = b' ∧ o = o' := by simpa using hA3
      have hxd := Hdat.out _ (List.getElem_mem hj)
      have hxT := HTs.out _ (List.getElem_mem hj)
      obtain ⟨x, hx⟩ : ∃ x, xs[j] = x := ⟨_, rfl⟩
      rw [hx] at z0 z1 z2 z3 z4 hxd hxT hxi
      simp only [hx] at Hone1 Hone2 Hrc
      clear hx hA3
      obtain ⟨xi, xk, xl, xt, xe⟩ := x
      simp only at z0 z1 z2 z3 z4 hxd hxT hxi Hone1 Hone2 Hrc
      obtain ⟨F, hF⟩ : ∃ F, tarR xs T (es.take p) = F := ⟨_, rfl⟩
      rw [hF] at hFs Hst ⊢
      clear hF
      subst hxi
      obtain ⟨m3, hm3⟩ : ∃ m3, xe.length = m3 := ⟨_, rfl⟩
      rw [hm3] at z4
      have s0 := v0
      have s1 := v1
      have s2 := y3
      have s3 := z0
      have s4 := z1
      have s5 := z2
      have s6 := z3
      have s7 := z4
      have B8 := BB
      clear hm3 v0 v1 y0 y1 y3 z0 z1 z2 z3 z4
      go_wp2_with fail
      go_cut [8] from 17 to 67 (fun p wx => ∃ g : Nat, p = .pointer (some ⟨g, 0, none⟩) ∧ Hid (Blk wx g 70 #[.int .i64 xi, .int .i64 xk, .int .i64 xl, .string xt, .slice A3 m3 c3]) ∧ Below wr.heap.size wr wx)
      case first =>
        refine wp_region_held_drew (S := fun w' => w'.cell? ⟨w.heap.size, 0, none⟩ = some (.int .i64 nx) ∧ w'.cell? ⟨w.heap.size, 1, none⟩ = some (.slice (some ⟨b, o, none⟩) n c) ∧ w'.cell? ⟨b2, o2 + p * 4 + 3, none⟩ = some (.int .i64 xi) ∧ w'.cell? ⟨b, o + j * 5, none⟩ = some (.int .i64 xi) ∧ w'.cell? ⟨b, o + j * 5 + 1, none⟩ = some (.int .i64 xk) ∧ w'.cell? ⟨b, o + j * 5 + 2, none⟩ = some (.int .i64 xl) ∧ w'.cell? ⟨b, o + j * 5 + 3, none⟩ = some (.string xt) ∧ w'.cell? ⟨b, o + j * 5 + 4, none⟩ = some (.slice A3 m3 c3)) (by kernel_rfl) (by exact ⟨s0, s1, s2, s3, s4, s5, s6, s7⟩) (fun hHeld => ?_)
        refine foldH ?_
        intro r0 hr0
        have bw0 : Below wr.heap.size wr r0 := by rw [hr0]; exact (bel0 wr).drew
        clear hr0 hHeld
        refine wpAnyH_take (i := 0) (oi := ?oi1) (v := ?v1) ?hi1 ?hs1 ?hf1 ?hr1 ?hQ1 ?hy1 ?hS1 ?hrest1
        case hi1 => (conv => lhs; simp only [List.getElem?_toArray, List.getElem?_cons_zero]); try exact rfl
        case hs1 => kernel_rfl
        case hf1 => kernel_rfl
        case hr1 => kernel_rfl
        case hQ1 => exact fun _ _ _ h => h
        case hS1 => exact ⟨keep1 (bw0) s0 (Nat.le_refl _), keep1 (bw0) s1 (Nat.le_refl _), keep1 (bw0) s2 (Nat.le_refl _), keep1 (bw0) s3 (Nat.le_refl _), keep1 (bw0) s4 (Nat.le_refl _), keep1 (bw0) s5 (Nat.le_refl _), keep1 (bw0) s6 (Nat.le_refl _), keep1 (bw0) s7 (Nat.le_refl _)⟩
        case hy1 => refine Or.inl ⟨by rfl, ?_⟩; intro w hSw; (try dsimp only at hSw); go_simp; (try with_reducible rfl)
        simp only [Act.put, List.setIfInBounds_toArray, List.set_cons_zero, List.set_cons_succ]
        refine wpAnyH_take (i := 1) (oi := ?oi2) (v := ?v2) ?hi2 ?hs2 ?hf2 ?hr2 ?hQ2 ?hy2 ?hS2 ?hrest2
        case hi2 => (conv => lhs; simp only [List.getElem?_toArray, List.getElem?_cons_zero, List.getElem?_cons_succ]); try exact rfl
        case hs2 => kernel_rfl
        case hf2 => kernel_rfl
        case hr2 => kernel_rfl
        case hQ2 => exact fun _ _ _ h => h
        case hS2 => exact ⟨keep1 (bw0) s0 (Nat.le_refl _), keep1 (bw0) s1 (Nat.le_refl _), keep1 (bw0) s2 (Nat.le_refl _), keep1 (bw0) s3 (Nat.le_refl _), keep1 (bw0) s4 (Nat.le_refl _), keep1 (bw0) s5 (Nat.le_refl _), keep1 (bw0) s6 (Nat.le_refl _), keep1 (bw0) s7 (Nat.le_refl _)⟩
        case hy2 => refine Or.inl ⟨by rfl, ?_⟩; intro w hSw; (try dsimp only at hSw); go_simp; (try with_reducible rfl)
        simp only [Act.put, List.setIfInBounds_toArray, List.set_cons_zero, List.set_cons_succ]
        refine wpAnyH_take (i := 2) (oi := ?oi3) (v := ?v3) ?hi3 ?hs3 ?hf3 ?hr3 ?hQ3 ?hy3 ?hS3 ?hrest3
        case hi3 => (conv => lhs; simp only [List.getElem?_toArray, List.getElem?_cons_zero, List.getElem?_cons_succ]); try exact rfl
        case hs3 => kernel_rfl
        case hf3 => kernel_rfl
        case hr3 => kernel_rfl
        case hQ3 => exact fun _ _ _ h => h
        case hS3 => exact ⟨keep1 (bw0) s0 (Nat.le_refl _), keep1 (bw0) s1 (Nat.le_refl _), keep1 (bw0) s2 (Nat.le_refl _), keep1 (bw0) s3 (Nat.le_refl _), keep1 (bw0) s4 (Nat.le_refl _), keep1 (bw0) s5 (Nat.le_refl _), keep1 (bw0) s6 (Nat.le_refl _), keep1 (bw0) s7 (Nat.le_refl _)⟩
        case hy3 => refine Or.inl ⟨by rfl, ?_⟩; intro w hSw; (try dsimp only at hSw); go_simp; (try with_reducible rfl)
        simp only [Act.put, List.setIfInBounds_toArray, List.set_cons_zero, List.set_cons_succ]
        refine wpAnyH_take (i := 3) (oi := ?oi4) (v := ?v4) ?hi4 ?hs4 ?hf4 ?hr4 ?hQ4 ?hy4 ?hS4 ?hrest4
        case hi4 => (conv => lhs; simp only [List.getElem?_toArray, List.getElem?_cons_zero, List.getElem?_cons_succ]); try exact rfl
        case hs4 => kernel_rfl
        case hf4 => kernel_rfl
        case hr4 => kernel_rfl
        case hQ4 => exact fun _ _ _ h => h
        case hS4 => exact ⟨keep1 (bw0) s0 (Nat.le_refl _), keep1 (bw0) s1 (Nat.le_refl _), keep1 (bw0) s2 (Nat.le_refl _), keep1 (bw0) s3 (Nat.le_refl _), keep1 (bw0) s4 (Nat.le_refl _), keep1 (bw0) s5 (Nat.le_refl _), keep1 (bw0) s6 (Nat.le_refl _), keep1 (bw0) s7 (Nat.le_refl _)⟩
        case hy4 => refine Or.inl ⟨by rfl, ?_⟩; intro w hSw; (try dsimp only at hSw); go_simp; (try with_reducible rfl)
        simp only [Act.put, List.setIfInBounds_toArray, List.set_cons_zero, List.set_cons_succ]
        refine wpAnyH_take (i := 4) (oi := ?oi5) (v := ?v5) ?hi5 ?hs5 ?hf5 ?hr5 ?hQ5 ?hy5 ?hS5 ?hrest5
        case hi5 => (conv => lhs; simp only [List.getElem?_toArray, List.getElem?_cons_zero, List.getElem?_cons_succ]); try exact rfl
        case hs5 => kernel_rfl
        case hf5 => kernel_rfl
        case hr5 => kernel_rfl
        case hQ5 => exact fun _ _ _ h => h
        case hS5 => exact ⟨keep1 (bw0) s0 (Nat.le_refl _), keep1 (bw0) s1 (Nat.le_refl _), keep1 (bw0) s2 (Nat.le_refl _), keep1 (bw0) s3 (Nat.le_refl _), keep1 (bw0) s4 (Nat.le_refl _), keep1 (bw0) s5 (Nat.le_refl _), keep1 (bw0) s6 (Nat.le_refl _), keep1 (bw0) s7 (Nat.le_refl _)⟩
        case hy5 => refine Or.inl ⟨by rfl, ?_⟩; intro w hSw; (try dsimp only at hSw); go_simp; (try with_reducible rfl)
        simp only [Act.put, List.setIfInBounds_toArray, List.set_cons_zero, List.set_cons_succ]
        refine wpAnyH_take (i := 5) (oi := ?oi6) (v := ?v6) ?hi6 ?hs6 ?hf6 ?hr6 ?hQ6 ?hy6 ?hS6 ?hrest6
        case hi6 => (conv => lhs; simp only [List.getElem?_toArray, List.getElem?_cons_zero, List.getElem?_cons_succ]); try exact rfl
        case hs6 => kernel_rfl
        case hf6 => kernel_rfl
        case hr6 => kernel_rfl
        case hQ6 => exact fun _ _ _ h => h
        case hS6 => exact ⟨keep1 (bw0) s0 (Nat.le_refl _), keep1 (bw0) s1 (Nat.le_refl _), keep1 (bw0) s2 (Nat.le_refl _), keep1 (bw0) s3 (Nat.le_refl _), keep1 (bw0) s4 (Nat.le_refl _), keep1 (bw0) s5 (Nat.le_refl _), keep1 (bw0) s6 (Nat.le_refl _), keep1 (bw0) s7 (Nat.le_refl _)⟩
        case hy6 => refine Or.inl ⟨by rfl, ?_⟩; intro w hSw; (try dsimp only at hSw); go_simp; (try with_reducible rfl)
        simp only [Act.put, List.setIfInBounds_toArray, List.set_cons_zero, List.set_cons_succ]
        refine wpAnyH_take (i := 6) (oi := ?oi7) (v := ?v7) ?hi7 ?hs7 ?hf7 ?hr7 ?hQ7 ?hy7 ?hS7 ?hrest7
        case hi7 => (conv => lhs; simp only [List.getElem?_toArray, List.getElem?_cons_zero, List.getElem?_cons_succ]); try exact rfl
        case hs7 => kernel_rfl
        case hf7 => kernel_rfl
        case hr7 => kernel_rfl
        case hQ7 => exact fun _ _ _ h => h
        case hS7 => exact ⟨keep1 (bw0) s0 (Nat.le_refl _), keep1 (bw0) s1 (Nat.le_refl _), keep1 (bw0) s2 (Nat.le_refl _), keep1 (bw0) s3 (Nat.le_refl _), keep1 (bw0) s4 (Nat.le_refl _), keep1 (bw0) s5 (Nat.le_refl _), keep1 (bw0) s6 (Nat.le_refl _), keep1 (bw0) s7 (Nat.le_refl _)⟩
        case hy7 => refine Or.inl ⟨by rfl, ?_⟩; intro w hSw; (try dsimp only at hSw); go_simp; (try with_reducible rfl)
        simp only [Act.put, List.setIfInBounds_toArray, List.set_cons_zero, List.set_cons_succ]
        refine wpAnyH_take (i := 7) (oi := ?oi8) (v := ?v8) ?hi8 ?hs8 ?hf8 ?hr8 ?hQ8 ?hy8 ?hS8 ?hrest8
        case hi8 => (conv => lhs; simp only [List.getElem?_toArray, List.getElem?_cons_zero, List.getElem?_cons_succ]); try exact rfl
        case hs8 => kernel_rfl
        case hf8 => kernel_rfl
        case hr8 => kernel_rfl
        case hQ8 => exact fun _ _ _ h => h
        case hS8 => exact ⟨keep1 (bw0) s0 (Nat.le_refl _), keep1 (bw0) s1 (Nat.le_refl _), keep1 (bw0) s2 (Nat.le_refl _), keep1 (bw0) s3 (Nat.le_refl _), keep1 (bw0) s4 (Nat.le_refl _), keep1 (bw0) s5 (Nat.le_refl _), keep1 (bw0) s6 (Nat.le_refl _), keep1 (bw0) s7 (Nat.le_refl _)⟩
        case hy8 => refine Or.inl ⟨by rfl, ?_⟩; intro w hSw; (try dsimp only at hSw); go_simp; (try with_reducible rfl)
        simp only [Act.put, List.setIfInBounds_toArray, List.set_cons_zero, List.set_cons_succ]
        refine wpAnyH_ready (rs := [8, 11]) (by kernel_rfl) (by simp) ?_
        refine AllReadyH.cons (o := ?oi9) ?hi9 (fun K hK => ?br9) (AllReadyH.cons (o := ?oi10) ?hi10 (fun K hK => ?br10) AllReadyH.nil)
        case hi9 => (conv => lhs; simp only [List.getElem?_toArray, List.getElem?_cons_zero, List.getElem?_cons_succ]); try exact rfl
        case hi10 => (conv => lhs; simp only [List.getElem?_toArray, List.getElem?_cons_zero, List.getElem?_cons_succ]); try exact rfl
        case br9 =>
          go_simp
          go_at_call 66
          refine (Hat2.out _ (hvv.out.next (belN B8 bw0)).is).mono ?_
          rintro e r1 ⟨rfl, hb1r⟩
          have bw1 : Below wr.heap.size wr r1 := bw0.trans (hb1r.mono bw0.size)
          refine hK.out _ _ (by exact ⟨keep1 (bw1) s0 (Nat.le_refl _), keep1 (bw1) s1 (Nat.le_refl _), keep1 (bw1) s2 (Nat.le_refl _), keep1 (bw1) s3 (Nat.le_refl _), keep1 (bw1) s4 (Nat.le_refl _), keep1 (bw1) s5 (Nat.le_refl _), keep1 (bw1) s6 (Nat.le_refl _), keep1 (bw1) s7 (Nat.le_refl _)⟩) (fun _ => ?_)
          clear hK K
          refine wpAnyH_take (i := 9) (oi := ?oi11) (v := ?v11) ?hi11 ?hs11 ?hf11 ?hr11 ?hQ11 ?hy11 ?hS11 ?hrest11
          case hi11 => (conv => lhs; simp only [List.getElem?_toArray, List.getElem?_cons_zero, List.getElem?_cons_succ]); try exact rfl
          case hs11 => kernel_rfl
          case hf11 => kernel_rfl
          case hr11 => kernel_rfl
          case hQ11 => exact fun _ _ _ h => h
          case hS11 => exact ⟨keep1 (bw1) s0 (Nat.le_refl _), keep1 (bw1) s1 (Nat.le_refl _), keep1 (bw1) s2 (Nat.le_refl _), keep1 (bw1) s3 (Nat.le_refl _), keep1 (bw1) s4 (Nat.le_refl _), keep1 (bw1) s5 (Nat.le_refl _), keep1 (bw1) s6 (Nat.le_refl _), keep1 (bw1) s7 (Nat.le_refl _)⟩
          case hy11 => refine Or.inl ⟨by rfl, ?_⟩; intro w hSw; (try dsimp only at hSw); go_simp; (try with_reducible rfl)
          simp only [Act.put, List.setIfInBounds_toArray, List.set_cons_zero, List.set_cons_succ]
          refine wpAnyH_take (i := 10) (oi := ?oi12) (v := ?v12) ?hi12 ?hs12 ?hf12 ?hr12 ?hQ12 ?hy12 ?hS12 ?hrest12
          case hi12 => (conv => lhs; simp only [List.getElem?_toArray, List.getElem?_cons_zero, List.getElem?_cons_succ]); try exact rfl
          case hs12 => kernel_rfl
          case hf12 => kernel_rfl
          case hr12 => kernel_rfl
          case hQ12 => exact fun _ _ _ h => h
          case hS12 => exact ⟨keep1 (bw1) s0 (Nat.le_refl _), keep1 (bw1) s1 (Nat.le_refl _), keep1 (bw1) s2 (Nat.le_refl _), keep1 (bw1) s3 (Nat.le_refl _), keep1 (bw1) s4 (Nat.le_refl _), keep1 (bw1) s5 (Nat.le_refl _), keep1 (bw1) s6 (Nat.le_refl _), keep1 (bw1) s7 (Nat.le_refl _)⟩
          case hy12 => refine Or.inl ⟨by rfl, ?_⟩; intro w hSw; (try dsimp only at hSw); go_simp; (try with_reducible rfl)
          simp only [Act.put, List.setIfInBounds_toArray, List.set_cons_zero, List.set_cons_succ]
          refine wpAnyH_ready (rs := [11]) (by kernel_rfl) (by simp) ?_
          refine AllReadyH.cons (o := ?oi13) ?hi13 (fun K hK => ?br13) AllReadyH.nil
          case hi13 => (conv => lhs; simp only [List.getElem?_toArray, List.getElem?_cons_zero, List.getElem?_cons_succ]); try exact rfl
          case br13 =>
            go_simp
            refine hK.out _ _ (by exact ⟨keep1 (belA bw1 (.cells #[.int .i64 0, .int .i64 0, .int .i64 0, .string ⟨#[]⟩, .slice none 0 0] 70)) s0 (Nat.le_refl _), keep1 (belA bw1 (.cells #[.int .i64 0, .int .i64 0, .int .i64 0, .string ⟨#[]⟩, .slice none 0 0] 70)) s1 (Nat.le_refl _), keep1 (belA bw1 (.cells #[.int .i64 0, .int .i64 0, .int .i64 0, .string ⟨#[]⟩, .slice none 0 0] 70)) s2 (Nat.le_refl _), keep1 (belA bw1 (.cells #[.int .i64 0, .int .i64 0, .int .i64 0, .string ⟨#[]⟩, .slice none 0 0] 70)) s3 (Nat.le_refl _), keep1 (belA bw1 (.cells #[.int .i64 0, .int .i64 0, .int .i64 0, .string ⟨#[]⟩, .slice none 0 0] 70)) s4 (Nat.le_refl _), keep1 (belA bw1 (.cells #[.int .i64 0, .int .i64 0, .int .i64 0, .string ⟨#[]⟩, .slice none 0 0] 70)) s5 (Nat.le_refl _), keep1 (belA bw1 (.cells #[.int .i64 0, .int .i64 0, .int .i64 0, .string ⟨#[]⟩, .slice none 0 0] 70)) s6 (Nat.le_refl _), keep1 (belA bw1 (.cells #[.int .i64 0, .int .i64 0, .int .i64 0, .string ⟨#[]⟩, .slice none 0 0] 70)) s7 (Nat.le_refl _)⟩) (fun _ => ?_)
            clear hK K
            refine foldH ?_
            intro r2 hr2
            have bw2 : Below wr.heap.size wr r2 := by rw [hr2]; exact belA bw1 _
            have kX2 : Blk r2 r1.heap.size 70 #[.int .i64 0, .int .i64 0, .int .i64 0, .string ⟨#[]⟩, .slice none 0 0] := by rw [hr2]; exact Blk.new' _ _ _ _ rfl
            have laX2 : wr.heap.size ≤ r1.heap.size := bw1.size
            clear hr2
            refine wpAnyH_ready (rs := [12]) (by kernel_rfl) (by simp) ?_
            refine AllReadyH.cons (o := ?oi14) ?hi14 (fun K hK => ?br14) AllReadyH.nil
            case hi14 => (conv => lhs; simp only [List.getElem?_toArray, List.getElem?_cons_zero, List.getElem?_cons_succ]); try exact rfl
            case br14 =>
              have x0 := kX2.get (x := .int .i64 0) 0 rfl
              have f0 := kX2.frozen 0
              have x1 := kX2.get (x := .int .i64 0) 1 rfl
              have f1 := kX2.frozen 1
              have x2 := kX2.get (x := .int .i64 0) 2 rfl
              have f2 := kX2.frozen 2
              have x3 := kX2.get (x := .string ⟨#[]⟩) 3 rfl
              have f3 := kX2.frozen 3
              have x4 := kX2.get (x := .slice none 0 0) 4 rfl
              have f4 := kX2.frozen 4
              have lE := kX2.lt
              go_simp
              refine hK.out _ _ (by exact ⟨keep1 (belC (belC (belC (belC (belC (bw2) _ _ laX2 _) _ _ laX2 _) _ _ laX2 _) _ _ laX2 _) _ _ laX2 _) s0 (Nat.le_refl _), keep1 (belC (belC (belC (belC (belC (bw2) _ _ laX2 _) _ _ laX2 _) _ _ laX2 _) _ _ laX2 _) _ _ laX2 _) s1 (Nat.le_refl _), keep1 (belC (belC (belC (belC (belC (bw2) _ _ laX2 _) _ _ laX2 _) _ _ laX2 _) _ _ laX2 _) _ _ laX2 _) s2 (Nat.le_refl _), keep1 (belC (belC (belC (belC (belC (bw2) _ _ laX2 _) _ _ laX2 _) _ _ laX2 _) _ _ laX2 _) _ _ laX2 _) s3 (Nat.le_refl _), keep1 (belC (belC (belC (belC (belC (bw2) _ _ laX2 _) _ _ laX2 _) _ _ laX2 _) _ _ laX2 _) _ _ laX2 _) s4 (Nat.le_refl _), keep1 (belC (belC (belC (belC (belC (bw2) _ _ laX2 _) _ _ laX2 _) _ _ laX2 _) _ _ laX2 _) _ _ laX2 _) s5 (Nat.le_refl _), keep1 (belC (belC (belC (belC (belC (bw2) _ _ laX2 _) _ _ laX2 _) _ _ laX2 _) _ _ laX2 _) _ _ laX2 _) s6 (Nat.le_refl _), keep1 (belC (belC (belC (belC (belC (bw2) _ _ laX2 _) _ _ laX2 _) _ _ laX2 _) _ _ laX2 _) _ _ laX2 _) s7 (Nat.le_refl _)⟩) (fun _ => ?_)
              clear hK K x0 f0 x1 f1 x2 f2 x3 f3 x4 f4 lE
              refine foldH ?_
              intro r3 hr3
              have bw3 : Below wr.heap.size wr r3 := by rw [hr3]; exact belC (belC (belC (belC (belC (bw2) _ _ laX2 _) _ _ laX2 _) _ _ laX2 _) _ _ laX2 _) _ _ laX2 _
              have kX3 : Blk r3 r1.heap.size 70 #[.int .i64 xi, .int .i64 xk, .int .i64 xl, .string xt, .slice A3 m3 c3] := by rw [hr3]; exact (((((kX2).put 0 _ _ rfl).put 1 _ _ rfl).put 2 _ _ rfl).put 3 _ _ rfl).put 4 _ _ rfl
              clear hr3
              refine wpAnyH_done (by kernel_rfl) ?_ _
              go_wp2_with fail
              go_meet
              case rel => exact ⟨_, rfl, kX3, bw3⟩
        case br10 =>
          go_simp
          refine hK.out _ _ (by exact ⟨keep1 (belA bw0 (.cells #[.int .i64 0, .int .i64 0, .int .i64 0, .string ⟨#[]⟩, .slice none 0 0] 70)) s0 (Nat.le_refl _), keep1 (belA bw0 (.cells #[.int .i64 0, .int .i64 0, .int .i64 0, .string ⟨#[]⟩, .slice none 0 0] 70)) s1 (Nat.le_refl _), keep1 (belA bw0 (.cells #[.int .i64 0, .int .i64 0, .int .i64 0, .string ⟨#[]⟩, .slice none 0 0] 70)) s2 (Nat.le_refl _), keep1 (belA bw0 (.cells #[.int .i64 0, .int .i64 0, .int .i64 0, .string ⟨#[]⟩, .slice none 0 0] 70)) s3 (Nat.le_refl _), keep1 (belA bw0 (.cells #[.int .i64 0, .int .i64 0, .int .i64 0, .string ⟨#[]⟩, .slice none 0 0] 70)) s4 (Nat.le_refl _), keep1 (belA bw0 (.cells #[.int .i64 0, .int .i64 0, .int .i64 0, .string ⟨#[]⟩, .slice none 0 0] 70)) s5 (Nat.le_refl _), keep1 (belA bw0 (.cells #[.int .i64 0, .int .i64 0, .int .i64 0, .string ⟨#[]⟩, .slice none 0 0] 70)) s6 (Nat.le_refl _), keep1 (belA bw0 (.cells #[.int .i64 0, .int .i64 0, .int .i64 0, .string ⟨#[]⟩, .slice none 0 0] 70)) s7 (Nat.le_refl _)⟩) (fun _ => ?_)
          clear hK K
          refine foldH ?_
          intro r1 hr1
          have bw1 : Below wr.heap.size wr r1 := by rw [hr1]; exact belA bw0 _
          have kX1 : Blk r1 r0.heap.size 70 #[.int .i64 0, .int .i64 0, .int .i64 0, .string ⟨#[]⟩, .slice none 0 0] := by rw [hr1]; exact Blk.new' _ _ _ _ rfl
          have laX1 : wr.heap.size ≤ r0.heap.size := bw0.size
          clear hr1
          refine wpAnyH_ready (rs := [8]) (by kernel_rfl) (by simp) ?_
          refine AllReadyH.cons (o := ?oi15) ?hi15 (fun K hK => ?br15) AllReadyH.nil
          case hi15 => (conv => lhs; simp only [List.getElem?_toArray, List.getElem?_cons_zero, List.getElem?_cons_succ]); try exact rfl
          case br15 =>
            go_simp
            go_at_call 66
            refine (Hat2.out _ (hvv.out.next (belN B8 bw1)).is).mono ?_
            rintro e r2 ⟨rfl, hb2r⟩
            have bw2 : Below wr.heap.size wr r2 := bw1.trans (hb2r.mono bw1.size)
            refine hK.out _ _ (by exact ⟨keep1 (bw2) s0 (Nat.le_refl _), keep1 (bw2) s1 (Nat.le_refl _), keep1 (bw2) s2 (Nat.le_refl _), keep1 (bw2) s3 (Nat.le_refl _), keep1 (bw2) s4 (Nat.le_refl _), keep1 (bw2) s5 (Nat.le_refl _), keep1 (bw2) s6 (Nat.le_refl _), keep1 (bw2) s7 (Nat.le_refl _)⟩) (fun _ => ?_)
            clear hK K
            have kX2 := kX1.below hb2r kX1.lt
            refine wpAnyH_take (i := 9) (oi := ?oi16) (v := ?v16) ?hi16 ?hs16 ?hf16 ?hr16 ?hQ16 ?hy16 ?hS16 ?hrest16
            case hi16 => (conv => lhs; simp only [List.getElem?_toArray, List.getElem?_cons_zero, List.getElem?_cons_succ]); try exact rfl
            case hs16 => kernel_rfl
            case hf16 => kernel_rfl
            case hr16 => kernel_rfl
            case hQ16 => exact fun _ _ _ h => h
            case hS16 => exact ⟨keep1 (bw2) s0 (Nat.le_refl _), keep1 (bw2) s1 (Nat.le_refl _), keep1 (bw2) s2 (Nat.le_refl _), keep1 (bw2) s3 (Nat.le_refl _), keep1 (bw2) s4 (Nat.le_refl _), keep1 (bw2) s5 (Nat.le_refl _), keep1 (bw2) s6 (Nat.le_refl _), keep1 (bw2) s7 (Nat.le_refl _)⟩
            case hy16 => refine Or.inl ⟨by rfl, ?_⟩; intro w hSw; (try dsimp only at hSw); go_simp; (try with_reducible rfl)
            simp only [Act.put, List.setIfInBounds_toArray, List.set_cons_zero, List.set_cons_succ]
            refine wpAnyH_take (i := 10) (oi := ?oi17) (v := ?v17) ?hi17 ?hs17 ?hf17 ?hr17 ?hQ17 ?hy17 ?hS17 ?hrest17
            case hi17 => (conv => lhs; simp only [List.getElem?_toArray, List.getElem?_cons_zero, List.getElem?_cons_succ]); try exact rfl
            case hs17 => kernel_rfl
            case hf17 => kernel_rfl
            case hr17 => kernel_rfl
            case hQ17 => exact fun _ _ _ h => h
            case hS17 => exact ⟨keep1 (bw2) s0 (Nat.le_refl _), keep1 (bw2) s1 (Nat.le_refl _), keep1 (bw2) s2 (Nat.le_refl _), keep1 (bw2) s3 (Nat.le_refl _), keep1 (bw2) s4 (Nat.le_refl _), keep1 (bw2) s5 (Nat.le_refl _), keep1 (bw2) s6 (Nat.le_refl _), keep1 (bw2) s7 (Nat.le_refl _)⟩
            case hy17 => refine Or.inl ⟨by rfl, ?_⟩; intro w hSw; (try dsimp only at hSw); go_simp; (try with_reducible rfl)
            simp only [Act.put, List.setIfInBounds_toArray, List.set_cons_zero, List.set_cons_succ]
            refine wpAnyH_ready (rs := [12]) (by kernel_rfl) (by simp) ?_
            refine AllReadyH.cons (o := ?oi18) ?hi18 (fun K hK => ?br18) AllReadyH.nil
            case hi18 => (conv => lhs; simp only [List.getElem?_toArray, List.getElem?_cons_zero, List.getElem?_cons_succ]); try exact rfl
            case br18 =>
              have x0 := kX2.get (x := .int .i64 0) 0 rfl
              have f0 := kX2.frozen 0
              have x1 := kX2.get (x := .int .i64 0) 1 rfl
              have f1 := kX2.frozen 1
              have x2 := kX2.get (x := .int .i64 0) 2 rfl
              have f2 := kX2.frozen 2
              have x3 := kX2.get (x := .string ⟨#[]⟩) 3 rfl
              have f3 := kX2.frozen 3
              have x4 := kX2.get (x := .slice none 0 0) 4 rfl
              have f4 := kX2.frozen 4
              have lE := kX2.lt
              go_simp
              refine hK.out _ _ (by exact ⟨keep1 (belC (belC (belC (belC (belC (bw2) _ _ laX1 _) _ _ laX1 _) _ _ laX1 _) _ _ laX1 _) _ _ laX1 _) s0 (Nat.le_refl _), keep1 (belC (belC (belC (belC (belC (bw2) _ _ laX1 _) _ _ laX1 _) _ _ laX1 _) _ _ laX1 _) _ _ laX1 _) s1 (Nat.le_refl _), keep1 (belC (belC (belC (belC (belC (bw2) _ _ laX1 _) _ _ laX1 _) _ _ laX1 _) _ _ laX1 _) _ _ laX1 _) s2 (Nat.le_refl _), keep1 (belC (belC (belC (belC (belC (bw2) _ _ laX1 _) _ _ laX1 _) _ _ laX1 _) _ _ laX1 _) _ _ laX1 _) s3 (Nat.le_refl _), keep1 (belC (belC (belC (belC (belC (bw2) _ _ laX1 _) _ _ laX1 _) _ _ laX1 _) _ _ laX1 _) _ _ laX1 _) s4 (Nat.le_refl _), keep1 (belC (belC (belC (belC (belC (bw2) _ _ laX1 _) _ _ laX1 _) _ _ laX1 _) _ _ laX1 _) _ _ laX1 _) s5 (Nat.le_refl _), keep1 (belC (belC (belC (belC (belC (bw2) _ _ laX1 _) _ _ laX1 _) _ _ laX1 _) _ _ laX1 _) _ _ laX1 _) s6 (Nat.le_refl _), keep1 (belC (belC (belC (belC (belC (bw2) _ _ laX1 _) _ _ laX1 _) _ _ laX1 _) _ _ laX1 _) _ _ laX1 _) s7 (Nat.le_refl _)⟩) (fun _ => ?_)
              clear hK K x0 f0 x1 f1 x2 f2 x3 f3 x4 f4 lE
              refine foldH ?_
              intro r3 hr3
              have bw3 : Below wr.heap.size wr r3 := by rw [hr3]; exact belC (belC (belC (belC (belC (bw2) _ _ laX1 _) _ _ laX1 _) _ _ laX1 _) _ _ laX1 _) _ _ laX1 _
              have kX3 : Blk r3 r0.heap.size 70 #[.int .i64 xi, .int .i64 xk, .int .i64 xl, .string xt, .slice A3 m3 c3] := by rw [hr3]; exact (((((kX2).put 0 _ _ rfl).put 1 _ _ rfl).put 2 _ _ rfl).put 3 _ _ rfl).put 4 _ _ rfl
              clear hr3
              refine wpAnyH_done (by kernel_rfl) ?_ _
              go_wp2_with fail
              go_meet
              case rel => exact ⟨_, rfl, kX3, bw3⟩
      case rest =>
        obtain ⟨g, rfl, hG, hb9⟩ := hcut
        have BB9 := belN BB hb9
        have V0' := keep1 hb9 s0 (Nat.le_refl _)
        have V1' := keep1 hb9 s1 (Nat.le_refl _)
        have y2' := keep1 hb9 y2 (Nat.le_refl _)
        have y3' := keep1 hb9 s2 (Nat.le_refl _)
        clear s0 s1 s2 s3 s4 s5 s6 s7 y2
        have g1 := hG.out.get (x := .int .i64 xk) 1 rfl
        have g3 := hG.out.get (x := .string xt) 3 rfl
        have hv9 := Lib.hid (hvv.out.next BB9)
        have h1 := pieceB_size eS
        have h2 := pieceB_size xt
        have hbelw := belN hbel hb9
        obtain ⟨hxs, hxk⟩ := hxd
        by_cases hxd : xk = 2
        · subst hxd
          have Hr := Lib.hid (Hrc.out rfl)
          have hon := Hone1.out rfl
          have hTx := hxT rfl
          rw [hon] at Hst
          obtain ⟨T1, hT1⟩ : ∃ T1, T xi = T1 := ⟨_, rfl⟩
          simp only [hT1] at Hr Hst hTx
          clear hT1 hon Hone1 Hone2 hxT Hrc hxk
          have u1 : ¬ 9223372036854775807 < F.size + 1 := by omega
          have u2 : ¬ 9223372036854775807 < F.size + 1 + (pieceB eS).size := by omega
          have u3 : ¬ 9223372036854775807 < F.size + 1 + (pieceB eS).size + T1.size := by omega
          have u4 : ¬ 9223372036854775807 < F.size + 1 + (pieceB eS).size + T1.size + 1 := by omega
          have hs1 := str1_size 100
          have hs2 := str1_size 101
          go_wp2_with fail
          go_region_held3 (fun w' => w'.cell? ⟨w.heap.size, 0, none⟩ = some (.int .i64 nx) ∧ w'.cell? ⟨w.heap.size, 1, none⟩ = some (.slice (some ⟨b, o, none⟩) n c) ∧ w'.cell? ⟨b2, o2 + p * 4 + 2, none⟩ = some (.string eS) ∧ w'.cell? ⟨b2, o2 + p * 4 + 3, none⟩ = some (.int .i64 xi))
            (first | go_keep | (refine ⟨keep1 hb10 ?_, keep1 hb10 ?_, keep1 hb10 ?_, keep1 hb10 ?_⟩ <;> go_keep) | (refine ⟨keep1 hb11 ?_, keep1 hb11 ?_, keep1 hb11 ?_, keep1 hb11 ?_⟩ <;> go_keep))
            (first
              | (go_at_call 138; refine (piece_spec eS (by omega) _).mono ?_; rintro e w10 ⟨rfl, hb10⟩; have hB10 := belN (bel0 wc).drew hb10)
              | (go_at_call 68; refine (Hr.out _ (hv9.out.next hB10)).mono ?_; rintro e w11 ⟨rfl, hb11⟩; have hB11 := belN hB10 hb11))
          go_wp2
          go_roundw
          case rel => exact ⟨p + 1, by omega, by go_num, by rw [Hst.out, tar_step_dir], belN hbelw hB11⟩
          case measure => simp [intOf]; omega
        · obtain rfl : xk = 1 := by omega
          have hon := Hone2.out (by omega)
          rw [hon] at Hst
          clear hon Hone1 Hone2 hxT Hrc hxd hxk
          have u1 : ¬ 9223372036854775807 < F.size + 1 := by omega
          have u2 : ¬ 9223372036854775807 < F.size + 1 + (pieceB eS).size := by omega
          have u3 : ¬ 9223372036854775807 < F.size + 1 + (pieceB eS).size + (pieceB xt).size := by omega
          have hs1 := str1_size 102
          go_wp2_with fail
          go_region_held3 (fun w' => w'.cell? ⟨b2, o2 + p * 4 + 2, none⟩ = some (.string eS) ∧ w'.cell? ⟨g, 3, none⟩ = some (.string xt))
            (first | go_keep | (refine ⟨keep1 hb10 ?_, keep1 hb10 ?_⟩ <;> go_keep) | (refine ⟨keep1 hb11 ?_, keep1 hb11 ?_⟩ <;> go_keep))
            (first
              | (go_at_call 138; refine (piece_spec eS (by omega) _).mono ?_; rintro e w10 ⟨rfl, hb10⟩; have hB10 := belN (bel0 wc).drew hb10)
              | (go_at_call 138; refine (piece_spec xt (by omega) _).mono ?_; rintro e w11 ⟨rfl, hb11⟩; have hB11 := belN hB10 hb11))
          go_wp2
          go_roundw
          case rel => exact ⟨p + 1, by omega, by go_num, by rw [Hst.out, tar_step_file], belN hbelw hB11⟩
          case measure => simp [intOf]; omega
    · obtain rfl : p = m := by omega
      have Hf := Lib.hid (show tarR xs T (es.take p) = tarR xs T es by rw [List.take_of_length_le (by have := HM.out; omega)])
      rw [Hf.out]
      clear v0 v1
      go_wp2
      go_ret
      exact ⟨rfl, BB⟩

end Go.Proofs.YthdbomkddpnhaaaGreatDoor
