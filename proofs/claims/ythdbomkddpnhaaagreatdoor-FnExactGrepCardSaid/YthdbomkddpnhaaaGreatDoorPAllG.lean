/- l28All of the reference with a text that is sought: one directory, and the induction. -/
import Derived.Test.YthdbomkddpnhaaaGreatDoorPPutS
import Derived.Test.YthdbomkddpnhaaaGreatDoorPTarP
import Derived.Test.YthdbomkddpnhaaaGreatDoorPRegH
import Derived.Test.YthdbomkddpnhaaaGreatDoorPGrepI
namespace Go.Proofs.YthdbomkddpnhaaaGreatDoor
open Go Go.RowKit

set_option maxRecDepth 100000 in
set_option maxHeartbeats 8000000 in
theorem l28g_gen (v : Value) (V : VolD) (sm : szV V ≤ 1048576) (hv : VolP V.nx V.xs) (p : ByteArray) (hp : p.size ≤ 2000000) (hp0 : p.size ≠ 0) (F : Int → ByteArray → List ByteArray) (a : Int) (k : Nat) (hk : k < V.xs.length) (hpl : plc V.xs a = (k : Int)) (pre : ByteArray) (hpre : pre.size ≤ 1000)
  (hF : ∀ x ∈ V.xs, x.kd = 2 → ∀ t, (F x.id t).length ≤ 3200) (hsz : (fndR V.xs (fun _ x => grepB p x) F pre V.xs[k].es).length ≤ 3200)
  (hrec : ∀ (i : Nat) (hi : i < V.xs[k].es.length) (j : Nat) (hj : j < V.xs.length), plc V.xs V.xs[k].es[i].d = (j : Int) → V.xs[j].kd = 2 → ∀ W b1 u (o : List ByteArray), b1 ≤ W.heap.size → o.length + (F V.xs[j].id (pre ++ str [47] ++ V.xs[k].es[i].s)).length ≤ 40000 → Tab W → IsVolC W v V → W.ownsRow b1 9 1 u o.length (SS o) →
   Calls Tryz.prog 104 #[v, .int .i64 V.xs[j].id, .string (pre ++ str [47] ++ V.xs[k].es[i].s), .string ⟨#[]⟩, .string p, u] W (APost W b1 ((F V.xs[j].id (pre ++ str [47] ++ V.xs[k].es[i].s)).foldl putT o)))
  (w : World) (b0 : Nat) (u : Value) (o0 : List ByteArray) (hb0 : b0 ≤ w.heap.size) (ho0 : o0.length + (fndR V.xs (fun _ x => grepB p x) F pre V.xs[k].es).length ≤ 40000) (hT : Tab w) (hC : IsVolC w v V) (hO : w.ownsRow b0 9 1 u o0.length (SS o0)) :
  Calls Tryz.prog 104 #[v, .int .i64 a, .string pre, .string ⟨#[]⟩, .string p, u] w (APost w b0 ((fndR V.xs (fun _ x => grepB p x) F pre V.xs[k].es).foldl putT o0)) := by
 have hn := v_len sm
 have Hat := Lib.hid (fun a W hW => l6At_any v V hn a W hW)
 have hrn := v_rows sm _ (List.getElem_mem hk)
 have Hsub := Lib.hid (fun e he => hv.not1 (List.getElem_mem hk) (e := e) he)
 have Hnm := Lib.hid (fun e he => es_name hv (List.getElem_mem hk) (e := e) he)
 have Hdat := Lib.hid (fun x hx => ino_data hv (x := x) hx)
 have HFs := Lib.hid hF
 have HT := Lib.hid hT
 have HO := Lib.hid hO
 have Hhas := Lib.hid (fun s hs W => l28Has_any s p hs hp W)
 have hp1 := not_empty p (by omega)
 have hp2 : ¬ p.toList = [] := by intro e; rw [e] at hp1; cases hp1
 have Hrec := Lib.hid hrec
 have hvv := Lib.hid hC
 have h := hC.is
 obtain ⟨A, c, rfl, h⟩ := h
 obtain ⟨nx, xs⟩ := V
 simp only at Hat Hsub Hnm Hdat HFs Hrec hrn hk hpl hn hsz ho0 h ⊢
 have H := Lib.hid h
 clear h hC hF hrec sm hv hT hO
 obtain ⟨es, hes⟩ : ∃ es, xs[k].es = es := ⟨_, rfl⟩
 have HE := Lib.hid hes
 simp only [hes] at Hsub Hnm Hrec hrn hsz ho0 ⊢
 obtain ⟨P, hP⟩ : ∃ P : EntD → InoD → Bool, (fun _ x => grepB p x) = P := ⟨_, rfl⟩
 have HPE := Lib.hid (fun e x => show P e x = grepB p x by rw [← hP])
 rw [hP] at hsz ho0 ⊢
 clear hP
 obtain ⟨m, hm⟩ : ∃ m, es.length = m := ⟨_, rfl⟩
 have HM := Lib.hid hm
 rw [hm] at hrn
 clear hm
 obtain ⟨n, hn'⟩ : ∃ n, xs.length = n := ⟨_, rfl⟩
 have HL := Lib.hid hn'
 have hkn : k < n := by omega
 simp only [hn'] at Hat hvv H hn Hrec
 have q0 : (0 : Int) ≤ ↑k := by omega
 have q1 : (↑k : Int) < ↑n := by omega
 obtain ⟨W1, hW1⟩ : ∃ W1, w.alloc (.cells #[.int .i64 nx, .slice A n c] 30) = W1 := ⟨_, rfl⟩
 have B1 : Below w.heap.size w W1 := by rw [← hW1]; exact belA (bel0 w) _
 have hV : Blk W1 w.heap.size 30 #[.int .i64 nx, .slice A n c] := by rw [← hW1]; exact Blk.new' _ _ _ _ rfl
 have S1 := hV.lt
 have HW1 := Lib.hid hW1
 have v0 := hV.get 0 rfl
 have v1 := hV.get 1 rfl
 have V0 := Lib.hid v0
 have V1 := Lib.hid v1
 clear hW1 hV
 obtain ⟨_, b, o, A', c', hA, hadb, _, _, _, _, z4', hrow⟩ := H.out.at_ hkn
 subst hA
 have z4 := keep1 B1 z4' (Nat.le_refl _)
 rw [HE.out, HM.out] at z4
 rw [HE.out, HM.out] at hrow
 have Hrow := Lib.hid hrow
 clear z4' hrow
 have Hat1 := Lib.hid (fun W hW => Hat.out a W hW)
 simp only [hpl] at Hat1
 go_enter Tryz.func104, Tryz.ntmps104
 go_wp2_with fail
 rw [HW1.out]
 go_region_held3 (fun w' => w'.cell? ⟨w.heap.size, 0, none⟩ = some (.int .i64 nx) ∧ w'.cell? ⟨w.heap.size, 1, none⟩ = some (.slice (some ⟨b, o, none⟩) n c) ∧ w'.cell? ⟨b, o + k * 5 + 4, none⟩ = some (.slice A' m c'))
  (first | go_keep | (refine ⟨keep1 hb5 ?_, keep1 hb5 ?_, keep1 hb5 ?_⟩ <;> go_keep))
  (first | (go_at_call 66; refine (Hat1.out _ (hvv.out.next B1.drew).is).mono ?_; rintro e w5 ⟨rfl, hb5⟩))
 have V0 := Lib.hid (keep1 hb5 (show W1.drew.cell? _ = _ from V0.out) (Nat.le_refl _))
 have V1 := Lib.hid (keep1 hb5 (show W1.drew.cell? _ = _ from V1.out) (Nat.le_refl _))
 have B5 := belN B1.drew hb5
 have S5 : w.heap.size < w5.heap.size := Nat.lt_of_lt_of_le S1 hb5.size
 clear v0 v1 z4
 go_wp2
 go_loopw [5, 14] (fun x i wr => ∃ (q : Nat), q ≤ m ∧ i = .int .i64 q ∧ wr.ownsRow b0 9 1 x ((fndR xs P F pre (es.take q)).foldl putT o0).length (SS ((fndR xs P F pre (es.take q)).foldl putT o0)) ∧ Below w5.heap.size w5 wr)
  (fun _ i _ => m - (intOf i).toNat)
 case atStart => exact ⟨0, by omega, rfl, by rw [List.take_zero]; exact own_below HO.out B5 (Nat.le_refl _), bel0 w5⟩
 case round =>
  obtain ⟨q, hq, rfl, own, hbel⟩ := hrel
  have Own := Lib.hid own
  clear own
  have v0 := keep1 hbel V0.out (Nat.le_refl _)
  have v1 := keep1 hbel V1.out (Nat.le_refl _)
  have BB := belN B5 hbel
  have hFs := fndR_take xs P F pre es q
  by_cases hlt : q < m
  ·obtain ⟨hpx, b2, o2, hA', hadb2, y0, y1, y2, y3⟩ := reads_ent (Hrow.out.below BB) hlt
   subst hA'
   have q2 : (0 : Int) ≤ ↑q := by omega
   have q3 : (↑q : Int) < ↑m := by omega
   obtain ⟨_, hsub⟩ := Hsub.out _ (List.getElem_mem hpx)
   obtain ⟨j, hj, hpj, _⟩ := plc_lt hsub
   have hjn : j < n := by have := HL.out; omega
   have q4 : (0 : Int) ≤ ↑j := by omega
   have q5 : (↑j : Int) < ↑n := by omega
   have Hst := Lib.hid (fndR_snoc (xs := xs) (P := P) (F := F) (pre := pre) hpx)
   have hFs2 := fndR_take xs P F pre es (q + 1)
   have Hone := Lib.hid (fndOne_at (P := P) (F := F) (pre := pre) hj hpj)
   have Hrc := Lib.hid (Hrec.out q hpx j hjn hpj)
   have hxi := plc_inj hj hpj
   have hnm := Hnm.out _ (List.getElem_mem hpx)
   have Hat2 := Lib.hid (fun W hW => Hat.out es[q].d W hW)
   simp only [hpj] at Hat2
   obtain ⟨e, he⟩ : ∃ e, es[q] = e := ⟨_, rfl⟩
   rw [he] at y0 y1 y2 y3 hnm Hst hxi
   simp only [he] at Hat2 Hone Hrc
   clear he hsub hpj
   obtain ⟨eh, ei, eS, ed⟩ := e
   simp only at y0 y1 y2 y3 hnm Hst Hat2 Hone Hrc
   obtain ⟨_, b', o', A3, c3, hA3, _, z0, z1, z2, z3, z4, _⟩ := (H.out.next BB).at_ hjn
   obtain ⟨rfl, rfl⟩ : b = b' ∧ o = o' := by simpa using hA3
   have hxd := Hdat.out _ (List.getElem_mem hj)
   have hxT := HFs.out _ (List.getElem_mem hj)
   obtain ⟨x, hx⟩ : ∃ x, xs[j] = x := ⟨_, rfl⟩
   rw [hx] at z0 z1 z2 z3 z4 hxd hxT hxi
   simp only [hx] at Hone Hrc
   clear hx hA3
   obtain ⟨xi, xk, xl, xt, xe⟩ := x
   simp only at z0 z1 z2 z3 z4 hxd hxT hxi Hone Hrc
   subst hxi
   obtain ⟨m3, hm3⟩ : ∃ m3, xe.length = m3 := ⟨_, rfl⟩
   rw [hm3] at z4
   have s0 := v0
   have s1 := v1
   have s2 := y3
   have s3 := z0
   have s4 := z1
   have s5 := z2
   have s6 := z3
   have s7 := z4
   have B8 := BB
   clear hm3 v0 v1 y0 y1 y3 z0 z1 z2 z3 z4
   go_wp2_with fail
   go_cut [15] from 25 to 92 (fun p wx => ∃ g : Nat, p = .pointer (some ⟨g, 0, none⟩) ∧ Hid (Blk wx g 70 #[.int .i64 xi, .int .i64 xk, .int .i64 xl, .string xt, .slice A3 m3 c3]) ∧ Below wr.heap.size wr wx)
   case first =>
    refine wp_region_held_drew (S := fun w' => w'.cell? ⟨w.heap.size, 0, none⟩ = some (.int .i64 nx) ∧ w'.cell? ⟨w.heap.size, 1, none⟩ = some (.slice (some ⟨b, o, none⟩) n c) ∧ w'.cell? ⟨b2, o2 + q * 4 + 3, none⟩ = some (.int .i64 xi) ∧ w'.cell? ⟨b, o + j * 5, none⟩ = some (.int .i64 xi) ∧ w'.cell? ⟨b, o + j * 5 + 1, none⟩ = some (.int .i64 xk) ∧ w'.cell? ⟨b, o + j * 5 + 2, none⟩ = some (.int .i64 xl) ∧ w'.cell? ⟨b, o + j * 5 + 3, none⟩ = some (.string xt) ∧ w'.cell? ⟨b, o + j * 5 + 4, none⟩ = some (.slice A3 m3 c3)) (by kernel_rfl) (by exact ⟨s0, s1, s2, s3, s4, s5, s6, s7⟩) (fun hHeld => ?_)
    refine foldH ?_
    intro r0 hr0
    have bw0 : Below wr.heap.size wr r0 := by rw [hr0]; exact (bel0 wr).drew
    clear hr0 hHeld
    refine wpAnyH_take (i := 0) (oi := ?oi1) (v := ?v1) ?hi1 ?hs1 ?hf1 ?hr1 ?hQ1 ?hy1 ?hS1 ?hrest1
    case hi1 => (conv => lhs; simp only [List.getElem?_toArray, List.getElem?_cons_zero]); try exact rfl
    case hs1 => kernel_rfl
    case hf1 => kernel_rfl
    case hr1 => kernel_rfl
    case hQ1 => exact fun _ _ _ h => h
    case hS1 => exact ⟨keep1 (bw0) s0 (Nat.le_refl _), keep1 (bw0) s1 (Nat.le_refl _), keep1 (bw0) s2 (Nat.le_refl _), keep1 (bw0) s3 (Nat.le_refl _), keep1 (bw0) s4 (Nat.le_refl _), keep1 (bw0) s5 (Nat.le_refl _), keep1 (bw0) s6 (Nat.le_refl _), keep1 (bw0) s7 (Nat.le_refl _)⟩
    case hy1 => refine Or.inl ⟨by rfl, ?_⟩; intro w hSw; (try dsimp only at hSw); go_simp; (try with_reducible rfl)
    simp only [Act.put, List.setIfInBounds_toArray, List.set_cons_zero, List.set_cons_succ]
    refine wpAnyH_take (i := 1) (oi := ?oi2) (v := ?v2) ?hi2 ?hs2 ?hf2 ?hr2 ?hQ2 ?hy2 ?hS2 ?hrest2
    case hi2 => (conv => lhs; simp only [List.getElem?_toArray, List.getElem?_cons_zero, List.getElem?_cons_succ]); try exact rfl
    case hs2 => kernel_rfl
    case hf2 => kernel_rfl
    case hr2 => kernel_rfl
    case hQ2 => exact fun _ _ _ h => h
    case hS2 => exact ⟨keep1 (bw0) s0 (Nat.le_refl _), keep1 (bw0) s1 (Nat.le_refl _), keep1 (bw0) s2 (Nat.le_refl _), keep1 (bw0) s3 (Nat.le_refl _), keep1 (bw0) s4 (Nat.le_refl _), keep1 (bw0) s5 (Nat.le_refl _), keep1 (bw0) s6 (Nat.le_refl _), keep1 (bw0) s7 (Nat.le_refl _)⟩
    case hy2 => refine Or.inl ⟨by rfl, ?_⟩; intro w hSw; (try dsimp only at hSw); go_simp; (try with_reducible rfl)
    simp only [Act.put, List.setIfInBounds_toArray, List.set_cons_zero, List.set_cons_succ]
    refine wpAnyH_take (i := 2) (oi := ?oi3) (v := ?v3) ?hi3 ?hs3 ?hf3 ?hr3 ?hQ3 ?hy3 ?hS3 ?hrest3
    case hi3 => (conv => lhs; simp only [List.getElem?_toArray, List.getElem?_cons_zero, List.getElem?_cons_succ]); try exact rfl
    case hs3 => kernel_rfl
    case hf3 => kernel_rfl
    case hr3 => kernel_rfl
    case hQ3 => exact fun _ _ _ h => h
    case hS3 => exact ⟨keep1 (bw0) s0 (Nat.le_refl _), keep1 (bw0) s1 (Nat.le_refl _), keep1 (bw0) s2 (Nat.le_refl _), keep1 (bw0) s3 (Nat.le_refl _), keep1 (bw0) s4 (Nat.le_refl _), keep1 (bw0) s5 (Nat.le_refl _), keep1 (bw0) s6 (Nat.le_refl _), keep1 (bw0) s7 (Nat.le_refl _)⟩
    case hy3 => refine Or.inl ⟨by rfl, ?_⟩; intro w hSw; (try dsimp only at hSw); go_simp; (try with_reducible rfl)
    simp only [Act.put, List.setIfInBounds_toArray, List.set_cons_zero, List.set_cons_succ]
    refine wpAnyH_take (i := 3) (oi := ?oi4) (v := ?v4) ?hi4 ?hs4 ?hf4 ?hr4 ?hQ4 ?hy4 ?hS4 ?hrest4
    case hi4 => (conv => lhs; simp only [List.getElem?_toArray, List.getElem?_cons_zero, List.getElem?_cons_succ]); try exact rfl
    case hs4 => kernel_rfl
    case hf4 => kernel_rfl
    case hr4 => kernel_rfl
    case hQ4 => exact fun _ _ _ h => h
    case hS4 => exact ⟨keep1 (bw0) s0 (Nat.le_refl _), keep1 (bw0) s1 (Nat.le_refl _), keep1 (bw0) s2 (Nat.le_refl _), keep1 (bw0) s3 (Nat.le_refl _), keep1 (bw0) s4 (Nat.le_refl _), keep1 (bw0) s5 (Nat.le_refl _), keep1 (bw0) s6 (Nat.le_refl _), keep1 (bw0) s7 (Nat.le_refl _)⟩
    case hy4 => refine Or.inl ⟨by rfl, ?_⟩; intro w hSw; (try dsimp only at hSw); go_simp; (try with_reducible rfl)
    simp only [Act.put, List.setIfInBounds_toArray, List.set_cons_zero, List.set_cons_succ]
    refine wpAnyH_take (i := 4) (oi := ?oi5) (v := ?v5) ?hi5 ?hs5 ?hf5 ?hr5 ?hQ5 ?hy5 ?hS5 ?hrest5
    case hi5 => (conv => lhs; simp only [List.getElem?_toArray, List.getElem?_cons_zero, List.getElem?_cons_succ]); try exact rfl
    case hs5 => kernel_rfl
    case hf5 => kernel_rfl
    case hr5 => kernel_rfl
    case hQ5 => exact fun _ _ _ h => h
    case hS5 => exact ⟨keep1 (bw0) s0 (Nat.le_refl _), keep1 (bw0) s1 (Nat.le_refl _), keep1 (bw0) s2 (Nat.le_refl _), keep1 (bw0) s3 (Nat.le_refl _), keep1 (bw0) s4 (Nat.le_refl _), keep1 (bw0) s5 (Nat.le_refl _), keep1 (bw0) s6 (Nat.le_refl _), keep1 (bw0) s7 (Nat.le_refl _)⟩
    case hy5 => refine Or.inl ⟨by rfl, ?_⟩; intro w hSw; (try dsimp only at hSw); go_simp; (try with_reducible rfl)
    simp only [Act.put, List.setIfInBounds_toArray, List.set_cons_zero, List.set_cons_succ]
    refine wpAnyH_take (i := 5) (oi := ?oi6) (v := ?v6) ?hi6 ?hs6 ?hf6 ?hr6 ?hQ6 ?hy6 ?hS6 ?hrest6
    case hi6 => (conv => lhs; simp only [List.getElem?_toArray, List.getElem?_cons_zero, List.getElem?_cons_succ]); try exact rfl
    case hs6 => kernel_rfl
    case hf6 => kernel_rfl
    case hr6 => kernel_rfl
    case hQ6 => exact fun _ _ _ h => h
    case hS6 => exact ⟨keep1 (bw0) s0 (Nat.le_refl _), keep1 (bw0) s1 (Nat.le_refl _), keep1 (bw0) s2 (Nat.le_refl _), keep1 (bw0) s3 (Nat.le_refl _), keep1 (bw0) s4 (Nat.le_refl _), keep1 (bw0) s5 (Nat.le_refl _), keep1 (bw0) s6 (Nat.le_refl _), keep1 (bw0) s7 (Nat.le_refl _)⟩
    case hy6 => refine Or.inl ⟨by rfl, ?_⟩; intro w hSw; (try dsimp only at hSw); go_simp; (try with_reducible rfl)
    simp only [Act.put, List.setIfInBounds_toArray, List.set_cons_zero, List.set_cons_succ]
    refine wpAnyH_take (i := 6) (oi := ?oi7) (v := ?v7) ?hi7 ?hs7 ?hf7 ?hr7 ?hQ7 ?hy7 ?hS7 ?hrest7
    case hi7 => (conv => lhs; simp only [List.getElem?_toArray, List.getElem?_cons_zero, List.getElem?_cons_succ]); try exact rfl
    case hs7 => kernel_rfl
    case hf7 => kernel_rfl
    case hr7 => kernel_rfl
    case hQ7 => exact fun _ _ _ h => h
    case hS7 => exact ⟨keep1 (bw0) s0 (Nat.le_refl _), keep1 (bw0) s1 (Nat.le_refl _), keep1 (bw0) s2 (Nat.le_refl _), keep1 (bw0) s3 (Nat.le_refl _), keep1 (bw0) s4 (Nat.le_refl _), keep1 (bw0) s5 (Nat.le_refl _), keep1 (bw0) s6 (Nat.le_refl _), keep1 (bw0) s7 (Nat.le_refl _)⟩
    case hy7 => refine Or.inl ⟨by rfl, ?_⟩; intro w hSw; (try dsimp only at hSw); go_simp; (try with_reducible rfl)
    simp only [Act.put, List.setIfInBounds_toArray, List.set_cons_zero, List.set_cons_succ]
    refine wpAnyH_take (i := 7) (oi := ?oi8) (v := ?v8) ?hi8 ?hs8 ?hf8 ?hr8 ?hQ8 ?hy8 ?hS8 ?hrest8
    case hi8 => (conv => lhs; simp only [List.getElem?_toArray, List.getElem?_cons_zero, List.getElem?_cons_succ]); try exact rfl
    case hs8 => kernel_rfl
    case hf8 => kernel_rfl
    case hr8 => kernel_rfl
    case hQ8 => exact fun _ _ _ h => h
    case hS8 => exact ⟨keep1 (bw0) s0 (Nat.le_refl _), keep1 (bw0) s1 (Nat.le_refl _), keep1 (bw0) s2 (Nat.le_refl _), keep1 (bw0) s3 (Nat.le_refl _), keep1 (bw0) s4 (Nat.le_refl _), keep1 (bw0) s5 (Nat.le_refl _), keep1 (bw0) s6 (Nat.le_refl _), keep1 (bw0) s7 (Nat.le_refl _)⟩
    case hy8 => refine Or.inl ⟨by rfl, ?_⟩; intro w hSw; (try dsimp only at hSw); go_simp; (try with_reducible rfl)
    simp only [Act.put, List.setIfInBounds_toArray, List.set_cons_zero, List.set_cons_succ]
    refine wpAnyH_ready (rs := [8, 11]) (by kernel_rfl) (by simp) ?_
    refine AllReadyH.cons (o := ?oi9) ?hi9 (fun K hK => ?br9) (AllReadyH.cons (o := ?oi10) ?hi10 (fun K hK => ?br10) AllReadyH.nil)
    case hi9 => (conv => lhs; simp only [List.getElem?_toArray, List.getElem?_cons_zero, List.getElem?_cons_succ]); try exact rfl
    case hi10 => (conv => lhs; simp only [List.getElem?_toArray, List.getElem?_cons_zero, List.getElem?_cons_succ]); try exact rfl
    case br9 =>
     go_simp
     go_at_call 66
     refine (Hat2.out _ (hvv.out.next (belN B8 bw0)).is).mono ?_
     rintro e r1 ⟨rfl, hb1r⟩
     have bw1 : Below wr.heap.size wr r1 := bw0.trans (hb1r.mono bw0.size)
     refine hK.out _ _ (by exact ⟨keep1 (bw1) s0 (Nat.le_refl _), keep1 (bw1) s1 (Nat.le_refl _), keep1 (bw1) s2 (Nat.le_refl _), keep1 (bw1) s3 (Nat.le_refl _), keep1 (bw1) s4 (Nat.le_refl _), keep1 (bw1) s5 (Nat.le_refl _), keep1 (bw1) s6 (Nat.le_refl _), keep1 (bw1) s7 (Nat.le_refl _)⟩) (fun _ => ?_)
     clear hK K
     refine wpAnyH_take (i := 9) (oi := ?oi11) (v := ?v11) ?hi11 ?hs11 ?hf11 ?hr11 ?hQ11 ?hy11 ?hS11 ?hrest11
     case hi11 => (conv => lhs; simp only [List.getElem?_toArray, List.getElem?_cons_zero, List.getElem?_cons_succ]); try exact rfl
     case hs11 => kernel_rfl
     case hf11 => kernel_rfl
     case hr11 => kernel_rfl
     case hQ11 => exact fun _ _ _ h => h
     case hS11 => exact ⟨keep1 (bw1) s0 (Nat.le_refl _), keep1 (bw1) s1 (Nat.le_refl _), keep1 (bw1) s2 (Nat.le_refl _), keep1 (bw1) s3 (Nat.le_refl _), keep1 (bw1) s4 (Nat.le_refl _), keep1 (bw1) s5 (Nat.le_refl _), keep1 (bw1) s6 (Nat.le_refl _), keep1 (bw1) s7 (Nat.le_refl _)⟩
     case hy11 => refine Or.inl ⟨by rfl, ?_⟩; intro w hSw; (try dsimp only at hSw); go_simp; (try with_reducible rfl)
     simp only [Act.put, List.setIfInBounds_toArray, List.set_cons_zero, List.set_cons_succ]
     refine wpAnyH_take (i := 10) (oi := ?oi12) (v := ?v12) ?hi12 ?hs12 ?hf12 ?hr12 ?hQ12 ?hy12 ?hS12 ?hrest12
     case hi12 => (conv => lhs; simp only [List.getElem?_toArray, List.getElem?_cons_zero, List.getElem?_cons_succ]); try exact rfl
     case hs12 => kernel_rfl
     case hf12 => kernel_rfl
     case hr12 => kernel_rfl
     case hQ12 => exact fun _ _ _ h => h
     case hS12 => exact ⟨keep1 (bw1) s0 (Nat.le_refl _), keep1 (bw1) s1 (Nat.le_refl _), keep1 (bw1) s2 (Nat.le_refl _), keep1 (bw1) s3 (Nat.le_refl _), keep1 (bw1) s4 (Nat.le_refl _), keep1 (bw1) s5 (Nat.le_refl _), keep1 (bw1) s6 (Nat.le_refl _), keep1 (bw1) s7 (Nat.le_refl _)⟩
     case hy12 => refine Or.inl ⟨by rfl, ?_⟩; intro w hSw; (try dsimp only at hSw); go_simp; (try with_reducible rfl)
     simp only [Act.put, List.setIfInBounds_toArray, List.set_cons_zero, List.set_cons_succ]
     refine wpAnyH_ready (rs := [11]) (by kernel_rfl) (by simp) ?_
     refine AllReadyH.cons (o := ?oi13) ?hi13 (fun K hK => ?br13) AllReadyH.nil
     case hi13 => (conv => lhs; simp only [List.getElem?_toArray, List.getElem?_cons_zero, List.getElem?_cons_succ]); try exact rfl
     case br13 =>
      go_simp
      refine hK.out _ _ (by exact ⟨keep1 (belA bw1 (.cells #[.int .i64 0, .int .i64 0, .int .i64 0, .string ⟨#[]⟩, .slice none 0 0] 70)) s0 (Nat.le_refl _), keep1 (belA bw1 (.cells #[.int .i64 0, .int .i64 0, .int .i64 0, .string ⟨#[]⟩, .slice none 0 0] 70)) s1 (Nat.le_refl _), keep1 (belA bw1 (.cells #[.int .i64 0, .int .i64 0, .int .i64 0, .string ⟨#[]⟩, .slice none 0 0] 70)) s2 (Nat.le_refl _), keep1 (belA bw1 (.cells #[.int .i64 0, .int .i64 0, .int .i64 0, .string ⟨#[]⟩, .slice none 0 0] 70)) s3 (Nat.le_refl _), keep1 (belA bw1 (.cells #[.int .i64 0, .int .i64 0, .int .i64 0, .string ⟨#[]⟩, .slice none 0 0] 70)) s4 (Nat.le_refl _), keep1 (belA bw1 (.cells #[.int .i64 0, .int .i64 0, .int .i64 0, .string ⟨#[]⟩, .slice none 0 0] 70)) s5 (Nat.le_refl _), keep1 (belA bw1 (.cells #[.int .i64 0, .int .i64 0, .int .i64 0, .string ⟨#[]⟩, .slice none 0 0] 70)) s6 (Nat.le_refl _), keep1 (belA bw1 (.cells #[.int .i64 0, .int .i64 0, .int .i64 0, .string ⟨#[]⟩, .slice none 0 0] 70)) s7 (Nat.le_refl _)⟩) (fun _ => ?_)
      clear hK K
      refine foldH ?_
      intro r2 hr2
      have bw2 : Below wr.heap.size wr r2 := by rw [hr2]; exact belA bw1 _
      have kX2 : Blk r2 r1.heap.size 70 #[.int .i64 0, .int .i64 0, .int .i64 0, .string ⟨#[]⟩, .slice none 0 0] := by rw [hr2]; exact Blk.new' _ _ _ _ rfl
      have laX2 : wr.heap.size ≤ r1.heap.size := bw1.size
      clear hr2
      refine wpAnyH_ready (rs := [12]) (by kernel_rfl) (by simp) ?_
      refine AllReadyH.cons (o := ?oi14) ?hi14 (fun K hK => ?br14) AllReadyH.nil
      case hi14 => (conv => lhs; simp only [List.getElem?_toArray, List.getElem?_cons_zero, List.getElem?_cons_succ]); try exact rfl
      case br14 =>
       have x0 := kX2.get (x := .int .i64 0) 0 rfl
       have f0 := kX2.frozen 0
       have x1 := kX2.get (x := .int .i64 0) 1 rfl
       have f1 := kX2.frozen 1
       have x2 := kX2.get (x := .int .i64 0) 2 rfl
       have f2 := kX2.frozen 2
       have x3 := kX2.get (x := .string ⟨#[]⟩) 3 rfl
       have f3 := kX2.frozen 3
       have x4 := kX2.get (x := .slice none 0 0) 4 rfl
       have f4 := kX2.frozen 4
       have lE := kX2.lt
       go_simp
       refine hK.out _ _ (by exact ⟨keep1 (belC (belC (belC (belC (belC (bw2) _ _ laX2 _) _ _ laX2 _) _ _ laX2 _) _ _ laX2 _) _ _ laX2 _) s0 (Nat.le_refl _), keep1 (belC (belC (belC (belC (belC (bw2) _ _ laX2 _) _ _ laX2 _) _ _ laX2 _) _ _ laX2 _) _ _ laX2 _) s1 (Nat.le_refl _), keep1 (belC (belC (belC (belC (belC (bw2) _ _ laX2 _) _ _ laX2 _) _ _ laX2 _) _ _ laX2 _) _ _ laX2 _) s2 (Nat.le_refl _), keep1 (belC (belC (belC (belC (belC (bw2) _ _ laX2 _) _ _ laX2 _) _ _ laX2 _) _ _ laX2 _) _ _ laX2 _) s3 (Nat.le_refl _), keep1 (belC (belC (belC (belC (belC (bw2) _ _ laX2 _) _ _ laX2 _) _ _ laX2 _) _ _ laX2 _) _ _ laX2 _) s4 (Nat.le_refl _), keep1 (belC (belC (belC (belC (belC (bw2) _ _ laX2 _) _ _ laX2 _) _ _ laX2 _) _ _ laX2 _) _ _ laX2 _) s5 (Nat.le_refl _), keep1 (belC (belC (belC (belC (belC (bw2) _ _ laX2 _) _ _ laX2 _) _ _ laX2 _) _ _ laX2 _) _ _ laX2 _) s6 (Nat.le_refl _), keep1 (belC (belC (belC (belC (belC (bw2) _ _ laX2 _) _ _ laX2 _) _ _ laX2 _) _ _ laX2 _) _ _ laX2 _) s7 (Nat.le_refl _)⟩) (fun _ => ?_)
       clear hK K x0 f0 x1 f1 x2 f2 x3 f3 x4 f4 lE
       refine foldH ?_
       intro r3 hr3
       have bw3 : Below wr.heap.size wr r3 := by rw [hr3]; exact belC (belC (belC (belC (belC (bw2) _ _ laX2 _) _ _ laX2 _) _ _ laX2 _) _ _ laX2 _) _ _ laX2 _
       have kX3 : Blk r3 r1.heap.size 70 #[.int .i64 xi, .int .i64 xk, .int .i64 xl, .string xt, .slice A3 m3 c3] := by rw [hr3]; exact (((((kX2).put 0 _ _ rfl).put 1 _ _ rfl).put 2 _ _ rfl).put 3 _ _ rfl).put 4 _ _ rfl
       clear hr3
       refine wpAnyH_done (by kernel_rfl) ?_ _
       go_wp2_with fail
       go_meet
       case rel => exact ⟨_, rfl, kX3, bw3⟩
    case br10 =>
     go_simp
     refine hK.out _ _ (by exact ⟨keep1 (belA bw0 (.cells #[.int .i64 0, .int .i64 0, .int .i64 0, .string ⟨#[]⟩, .slice none 0 0] 70)) s0 (Nat.le_refl _), keep1 (belA bw0 (.cells #[.int .i64 0, .int .i64 0, .int .i64 0, .string ⟨#[]⟩, .slice none 0 0] 70)) s1 (Nat.le_refl _), keep1 (belA bw0 (.cells #[.int .i64 0, .int .i64 0, .int .i64 0, .string ⟨#[]⟩, .slice none 0 0] 70)) s2 (Nat.le_refl _), keep1 (belA bw0 (.cells #[.int .i64 0, .int .i64 0, .int .i64 0, .string ⟨#[]⟩, .slice none 0 0] 70)) s3 (Nat.le_refl _), keep1 (belA bw0 (.cells #[.int .i64 0, .int .i64 0, .int .i64 0, .string ⟨#[]⟩, .slice none 0 0] 70)) s4 (Nat.le_refl _), keep1 (belA bw0 (.cells #[.int .i64 0, .int .i64 0, .int .i64 0, .string ⟨#[]⟩, .slice none 0 0] 70)) s5 (Nat.le_refl _), keep1 (belA bw0 (.cells #[.int .i64 0, .int .i64 0, .int .i64 0, .string ⟨#[]⟩, .slice none 0 0] 70)) s6 (Nat.le_refl _), keep1 (belA bw0 (.cells #[.int .i64 0, .int .i64 0, .int .i64 0, .string ⟨#[]⟩, .slice none 0 0] 70)) s7 (Nat.le_refl _)⟩) (fun _ => ?_)
     clear hK K
     refine foldH ?_
     intro r1 hr1
     have bw1 : Below wr.heap.size wr r1 := by rw [hr1]; exact belA bw0 _
     have kX1 : Blk r1 r0.heap.size 70 #[.int .i64 0, .int .i64 0, .int .i64 0, .string ⟨#[]⟩, .slice none 0 0] := by rw [hr1]; exact Blk.new' _ _ _ _ rfl
     have laX1 : wr.heap.size ≤ r0.heap.size := bw0.size
     clear hr1
     refine wpAnyH_ready (rs := [8]) (by kernel_rfl) (by simp) ?_
     refine AllReadyH.cons (o := ?oi15) ?hi15 (fun K hK => ?br15) AllReadyH.nil
     case hi15 => (conv => lhs; simp only [List.getElem?_toArray, List.getElem?_cons_zero, List.getElem?_cons_succ]); try exact rfl
     case br15 =>
      go_simp
      go_at_call 66
      refine (Hat2.out _ (hvv.out.next (belN B8 bw1)).is).mono ?_
      rintro e r2 ⟨rfl, hb2r⟩
      have bw2 : Below wr.heap.size wr r2 := bw1.trans (hb2r.mono bw1.size)
      refine hK.out _ _ (by exact ⟨keep1 (bw2) s0 (Nat.le_refl _), keep1 (bw2) s1 (Nat.le_refl _), keep1 (bw2) s2 (Nat.le_refl _), keep1 (bw2) s3 (Nat.le_refl _), keep1 (bw2) s4 (Nat.le_refl _), keep1 (bw2) s5 (Nat.le_refl _), keep1 (bw2) s6 (Nat.le_refl _), keep1 (bw2) s7 (Nat.le_refl _)⟩) (fun _ => ?_)
      clear hK K
      have kX2 := kX1.below hb2r kX1.lt
      refine wpAnyH_take (i := 9) (oi := ?oi16) (v := ?v16) ?hi16 ?hs16 ?hf16 ?hr16 ?hQ16 ?hy16 ?hS16 ?hrest16
      case hi16 => (conv => lhs; simp only [List.getElem?_toArray, List.getElem?_cons_zero, List.getElem?_cons_succ]); try exact rfl
      case hs16 => kernel_rfl
      case hf16 => kernel_rfl
      case hr16 => kernel_rfl
      case hQ16 => exact fun _ _ _ h => h
      case hS16 => exact ⟨keep1 (bw2) s0 (Nat.le_refl _), keep1 (bw2) s1 (Nat.le_refl _), keep1 (bw2) s2 (Nat.le_refl _), keep1 (bw2) s3 (Nat.le_refl _), keep1 (bw2) s4 (Nat.le_refl _), keep1 (bw2) s5 (Nat.le_refl _), keep1 (bw2) s6 (Nat.le_refl _), keep1 (bw2) s7 (Nat.le_refl _)⟩
      case hy16 => refine Or.inl ⟨by rfl, ?_⟩; intro w hSw; (try dsimp only at hSw); go_simp; (try with_reducible rfl)
      simp only [Act.put, List.setIfInBounds_toArray, List.set_cons_zero, List.set_cons_succ]
      refine wpAnyH_take (i := 10) (oi := ?oi17) (v := ?v17) ?hi17 ?hs17 ?hf17 ?hr17 ?hQ17 ?hy17 ?hS17 ?hrest17
      case hi17 => (conv => lhs; simp only [List.getElem?_toArray, List.getElem?_cons_zero, List.getElem?_cons_succ]); try exact rfl
      case hs17 => kernel_rfl
      case hf17 => kernel_rfl
      case hr17 => kernel_rfl
      case hQ17 => exact fun _ _ _ h => h
      case hS17 => exact ⟨keep1 (bw2) s0 (Nat.le_refl _), keep1 (bw2) s1 (Nat.le_refl _), keep1 (bw2) s2 (Nat.le_refl _), keep1 (bw2) s3 (Nat.le_refl _), keep1 (bw2) s4 (Nat.le_refl _), keep1 (bw2) s5 (Nat.le_refl _), keep1 (bw2) s6 (Nat.le_refl _), keep1 (bw2) s7 (Nat.le_refl _)⟩
      case hy17 => refine Or.inl ⟨by rfl, ?_⟩; intro w hSw; (try dsimp only at hSw); go_simp; (try with_reducible rfl)
      simp only [Act.put, List.setIfInBounds_toArray, List.set_cons_zero, List.set_cons_succ]
      refine wpAnyH_ready (rs := [12]) (by kernel_rfl) (by simp) ?_
      refine AllReadyH.cons (o := ?oi18) ?hi18 (fun K hK => ?br18) AllReadyH.nil
      case hi18 => (conv => lhs; simp only [List.getElem?_toArray, List.getElem?_cons_zero, List.getElem?_cons_succ]); try exact rfl
      case br18 =>
       have x0 := kX2.get (x := .int .i64 0) 0 rfl
       have f0 := kX2.frozen 0
       have x1 := kX2.get (x := .int .i64 0) 1 rfl
       have f1 := kX2.frozen 1
       have x2 := kX2.get (x := .int .i64 0) 2 rfl
       have f2 := kX2.frozen 2
       have x3 := kX2.get (x := .string ⟨#[]⟩) 3 rfl
       have f3 := kX2.frozen 3
       have x4 := kX2.get (x := .slice none 0 0) 4 rfl
       have f4 := kX2.frozen 4
       have lE := kX2.lt
       go_simp
       refine hK.out _ _ (by exact ⟨keep1 (belC (belC (belC (belC (belC (bw2) _ _ laX1 _) _ _ laX1 _) _ _ laX1 _) _ _ laX1 _) _ _ laX1 _) s0 (Nat.le_refl _), keep1 (belC (belC (belC (belC (belC (bw2) _ _ laX1 _) _ _ laX1 _) _ _ laX1 _) _ _ laX1 _) _ _ laX1 _) s1 (Nat.le_refl _), keep1 (belC (belC (belC (belC (belC (bw2) _ _ laX1 _) _ _ laX1 _) _ _ laX1 _) _ _ laX1 _) _ _ laX1 _) s2 (Nat.le_refl _), keep1 (belC (belC (belC (belC (belC (bw2) _ _ laX1 _) _ _ laX1 _) _ _ laX1 _) _ _ laX1 _) _ _ laX1 _) s3 (Nat.le_refl _), keep1 (belC (belC (belC (belC (belC (bw2) _ _ laX1 _) _ _ laX1 _) _ _ laX1 _) _ _ laX1 _) _ _ laX1 _) s4 (Nat.le_refl _), keep1 (belC (belC (belC (belC (belC (bw2) _ _ laX1 _) _ _ laX1 _) _ _ laX1 _) _ _ laX1 _) _ _ laX1 _) s5 (Nat.le_refl _), keep1 (belC (belC (belC (belC (belC (bw2) _ _ laX1 _) _ _ laX1 _) _ _ laX1 _) _ _ laX1 _) _ _ laX1 _) s6 (Nat.le_refl _), keep1 (belC (belC (belC (belC (belC (bw2) _ _ laX1 _) _ _ laX1 _) _ _ laX1 _) _ _ laX1 _) _ _ laX1 _) s7 (Nat.le_refl _)⟩) (fun _ => ?_)
       clear hK K x0 f0 x1 f1 x2 f2 x3 f3 x4 f4 lE
       refine foldH ?_
       intro r3 hr3
       have bw3 : Below wr.heap.size wr r3 := by rw [hr3]; exact belC (belC (belC (belC (belC (bw2) _ _ laX1 _) _ _ laX1 _) _ _ laX1 _) _ _ laX1 _) _ _ laX1 _
       have kX3 : Blk r3 r0.heap.size 70 #[.int .i64 xi, .int .i64 xk, .int .i64 xl, .string xt, .slice A3 m3 c3] := by rw [hr3]; exact (((((kX2).put 0 _ _ rfl).put 1 _ _ rfl).put 2 _ _ rfl).put 3 _ _ rfl).put 4 _ _ rfl
       clear hr3
       refine wpAnyH_done (by kernel_rfl) ?_ _
       go_wp2_with fail
       go_meet
       case rel => exact ⟨_, rfl, kX3, bw3⟩
   case rest =>
    obtain ⟨g, rfl, hG, hb9⟩ := hcut
    have BB9 := belN BB hb9
    have V0' := keep1 hb9 s0 (Nat.le_refl _)
    have V1' := keep1 hb9 s1 (Nat.le_refl _)
    have y2' := keep1 hb9 y2 (Nat.le_refl _)
    have y3' := keep1 hb9 s2 (Nat.le_refl _)
    clear s0 s1 s2 s3 s4 s5 s6 s7 y2
    have g1 := hG.out.get (x := .int .i64 xk) 1 rfl
    have g3 := hG.out.get (x := .string xt) 3 rfl
    have Own9 := Lib.hid (own_below Own.out hb9 (Nat.le_refl _))
    clear Own
    obtain ⟨A9, c9, hx9, _, _, _⟩ := own_vals Own9.out
    subst hx9
    obtain ⟨G, hGq⟩ : ∃ G, fndR xs P F pre (es.take q) = G := ⟨_, rfl⟩
    rw [hGq] at hFs Hst Own9 ⊢
    obtain ⟨L, hL⟩ : ∃ L, G.foldl putT o0 = L := ⟨_, rfl⟩
    have HLl := Lib.hid (show L.length = o0.length + G.length by rw [← hL, foldT_len])
    rw [hL] at Own9 ⊢
    obtain ⟨t, ht⟩ : ∃ t, pre ++ str [47] ++ eS = t := ⟨_, rfl⟩
    have ht2 : pre ++ ⟨#[47]⟩ ++ eS = t := ht
    have hs1 := str1_size 47
    have u1 : ¬ 9223372036854775807 < pre.size + 1 := by omega
    have u2 : ¬ 9223372036854775807 < pre.size + 1 + eS.size := by omega
    simp only [ht] at Hone Hrc
    have hbelw := belN hbel hb9
    rcases hxd.2 with rfl | rfl
    ·obtain ⟨pb, hpb⟩ : ∃ pb, hasB p xt = pb := ⟨_, rfl⟩
     have Hg := Lib.hid (fun W => Hhas.out xt (by omega) W)
     simp only [hpb] at Hg
     have hPp : P ⟨eh, ei, eS, xi⟩ ⟨xi, 1, xl, xt, xe⟩ = pb := by rw [HPE.out, grep_file rfl]; exact hpb
     clear hpb
     cases pb
     case false =>
      have hPn : ¬ (P ⟨eh, ei, eS, xi⟩ ⟨xi, 1, xl, xt, xe⟩ = true) := by rw [hPp]; decide
      have hx63 := hFs2
      rw [Hst.out, Hone.out, if_neg hPn] at hx63
      simp only [List.length_append, List.length_nil] at hx63
      have hon : (fndR xs P F pre (es.take (q + 1))).foldl putT o0 = L := by rw [Hst.out, List.foldl_append, hL, Hone.out, if_neg hPn, if_neg (show ¬ (1 : Int) = 2 by decide)]; rfl
      go_wp2_with fail
      refine (Hg.out _).mono ?_
      rintro e w10 ⟨rfl, hb10⟩
      have hG10 := hG.out.below hb10 hG.out.lt
      have Own10 := Lib.hid (own_below Own9.out hb10 (Nat.le_refl _))
      clear g1 g3
      have g1 := hG10.get (x := .int .i64 1) 1 rfl
      have BB10 := belN BB9 hb10
      have bw10 := belN hbelw hb10
      go_wp2_with fail
      first | (refine ⟨⟨q + 1, by omega, by go_num, ?_, bw10⟩, by simp [intOf]; omega⟩; rw [hon]; exact Own10.out) | (go_roundw; case rel => (refine ⟨q + 1, by omega, by go_num, ?_, bw10⟩; rw [hon]; exact Own10.out); case measure => (simp [intOf]; omega))
     case true =>
      have hx63 := hFs2
      rw [Hst.out, Hone.out, if_pos hPp] at hx63
      simp only [List.length_append, List.length_cons, List.length_nil] at hx63
      have Hpl := Lib.hid (show (putT L t).length = L.length + 1 by have h := (putT_perm L t).length_eq; rw [List.length_cons] at h; exact h)
      have hon : (fndR xs P F pre (es.take (q + 1))).foldl putT o0 = (putT L t) := by rw [Hst.out, List.foldl_append, hL, Hone.out, if_pos hPp, if_neg (show ¬ (1 : Int) = 2 by decide)]; rfl
      go_wp2_with fail
      refine (Hg.out _).mono ?_
      rintro e w10 ⟨rfl, hb10⟩
      have hG10 := hG.out.below hb10 hG.out.lt
      have Own10 := Lib.hid (own_below Own9.out hb10 (Nat.le_refl _))
      clear g1 g3
      have g1 := hG10.get (x := .int .i64 1) 1 rfl
      have BB10 := belN BB9 hb10
      have bw10 := belN hbelw hb10
      go_wp2_with (go_at_call 179; refine (l28Put_any L t A9 L.length c9 w10.heap.size (by have := HLl.out; omega) w10 (Reads.of_own Own10.out) (Nat.le_refl _)).mono ?_; rintro e w11 ⟨v11, rfl, _, own11, hb11⟩; have Own11 := Lib.hid (own_more own11 (Nat.le_trans hb0 BB10.size)); have hG11 := hG10.below hb11 hG10.lt; clear own11 g1; have g1 := hG11.get (x := .int .i64 1) 1 rfl; have BB11 := belN BB10 hb11; have bw11 := belN bw10 hb11)
      first | (refine ⟨⟨q + 1, by omega, by go_num, ?_, bw11⟩, by simp [intOf]; omega⟩; rw [hon]; exact Own11.out) | (go_roundw; case rel => (refine ⟨q + 1, by omega, by go_num, ?_, bw11⟩; rw [hon]; exact Own11.out); case measure => (simp [intOf]; omega))
    ·have hPn : ¬ (P ⟨eh, ei, eS, xi⟩ ⟨xi, 2, xl, xt, xe⟩ = true) := by rw [HPE.out, grep_other (show (2 : Int) ≠ 1 by decide)]; decide
     have hx63 := hFs2
     rw [Hst.out, Hone.out, if_neg hPn, if_pos rfl] at hx63
     simp only [List.length_append, List.length_nil] at hx63
     have Hr := Lib.hid (Hrc.out rfl)
     obtain ⟨R, hR⟩ : ∃ R, F xi t = R := ⟨_, rfl⟩
     have hon : (fndR xs P F pre (es.take (q + 1))).foldl putT o0 = R.foldl putT L := by rw [Hst.out, List.foldl_append, hL, Hone.out, if_neg hPn, if_pos rfl, hR]; rfl
     rw [hR] at hx63
     simp only [hR] at Hr
     clear hR Hrc Hst Hone hFs2
     go_wp2_with fail
     go_region_held3 (fun w' => w'.cell? ⟨w.heap.size, 0, none⟩ = some (.int .i64 nx) ∧ w'.cell? ⟨w.heap.size, 1, none⟩ = some (.slice (some ⟨b, o, none⟩) n c) ∧ w'.cell? ⟨b2, o2 + q * 4 + 3, none⟩ = some (.int .i64 xi))
      (first | go_keep | (refine ⟨keep1 hb12 ?_, keep1 hb12 ?_, keep1 hb12 ?_⟩ <;> go_keep))
      (first | (go_at_call 104; refine (Hr.out _ b0 _ L (Nat.le_trans hb0 (Nat.le_trans BB9.size (bel0 wc).drew.size)) (by have := HLl.out; omega) (HT.out.bl (belN BB9 (bel0 wc).drew)) (hvv.out.next (belN BB9 (bel0 wc).drew)) (own_below Own9.out (bel0 wc).drew (Nat.le_refl _))).mono ?_; rintro e w12 ⟨v12, rfl, own12, hb12⟩; have bw12 := belN (belN hbelw (bel0 wc).drew) hb12))
     go_wp2
     first | (refine ⟨⟨q + 1, by omega, by go_num, ?_, bw12⟩, by simp [intOf]; omega⟩; rw [hon]; exact own12) | (go_roundw; case rel => (refine ⟨q + 1, by omega, by go_num, ?_, bw12⟩; rw [hon]; exact own12); case measure => (simp [intOf]; omega))
  ·obtain rfl : q = m := by omega
   have Hf := Lib.hid (show fndR xs P F pre (es.take q) = fndR xs P F pre es by rw [List.take_of_length_le (by have := HM.out; omega)])
   have own := Own.out
   rw [Hf.out] at own
   clear v0 v1
   go_wp2
   go_ret
   exact ⟨_, rfl, own, BB⟩

theorem l28g_all (v : Value) (V : VolD) (sm : szV V ≤ 1048576) (hv : VolP V.nx V.xs) (p : ByteArray) (hp : p.size ≤ 2000000) (hp0 : p.size ≠ 0) : ∀ (d : Nat) (x : InoD), x ∈ V.xs → x.kd = 2 → 16 - dpt V.xs x.id ≤ d → ∀ (pre : ByteArray), pre.size ≤ 25 * dpt V.xs x.id → ∀ W b1 u (o : List ByteArray), b1 ≤ W.heap.size → o.length + (fndT V.xs (fun _ x => grepB p x) x.id pre).length ≤ 40000 → Tab W → IsVolC W v V → W.ownsRow b1 9 1 u o.length (SS o) →
  Calls Tryz.prog 104 #[v, .int .i64 x.id, .string pre, .string ⟨#[]⟩, .string p, u] W (APost W b1 ((fndT V.xs (fun _ x => grepB p x) x.id pre).foldl putT o))
 | 0, x, hx, hd, h, pre, hpre, W, b1, u, o, hb, ho, hT, hW, hO => by have := dpt_short hv (a := x.id) ⟨x, hx, rfl, hd⟩; omega
 | d + 1, x, hx, hd, h, pre, hpre, W, b1, u, o, hb, ho, hT, hW, hO => by
  obtain ⟨k, hk, rfl⟩ := List.getElem_of_mem hx
  have hpl := plc_own hv.grow hk
  have his := fndT_is hv (fun _ x => grepB p x) hx hd pre
  have hs := dpt_short hv (a := V.xs[k].id) ⟨_, hx, rfl, hd⟩
  rw [his] at ho ⊢
  refine l28g_gen v V sm hv p hp hp0 (fndT V.xs (fun _ x => grepB p x)) _ k hk hpl pre (by omega) (fun y hy hyd t => fndT_len hv _ hy hyd t) (by rw [← his]; exact fndT_len hv _ hx hd pre) (fun i hi j hj hpj hjd W2 b2 u2 o2 hb2 ho2 hT2 hW2 hO2 => ?_) W b1 u o hb ho hT hW hO
  have hid := plc_inj hj hpj
  have hkd := kid_deep hv hx (List.getElem_mem hi) (List.getElem_mem hj) hjd hid
  have hnm := es_name hv hx (List.getElem_mem hi)
  exact l28g_all v V sm hv p hp hp0 d _ (List.getElem_mem hj) hjd (by omega) _ (by simp only [ByteArray.size_append]; have : (str [47]).size = 1 := rfl; omega) W2 b2 u2 o2 hb2 ho2 hT2 hW2 hO2

end Go.Proofs.YthdbomkddpnhaaaGreatDoor

