/- What stands below a directory and fits, of the program: with the closure of Grep. -/
import Derived.Test.YthdbomkddpnhaaaGreatDoorPFindC
import Derived.Test.YthdbomkddpnhaaaGreatDoorPTarP
import Derived.Test.YthdbomkddpnhaaaGreatDoorPRegH
import Derived.Test.YthdbomkddpnhaaaGreatDoorPHasS
namespace Go.Proofs.YthdbomkddpnhaaaGreatDoor
open Go Go.RowKit

/-- Is a file's inode one that has a text in it? -/
def grepB (p : ByteArray) (x : InoD) : Bool := (x.kd == 1) && hasB p x.s
theorem grep_file {p : ByteArray} {x : InoD} (h : x.kd = 1) : grepB p x = hasB p x.s := by unfold grepB; rw [h]; rfl
theorem grep_other {p : ByteArray} {x : InoD} (h : x.kd ≠ 1) : grepB p x = false := by
 unfold grepB
 have : (x.kd == 1) = false := by simpa using h
 rw [this]; rfl

set_option maxHeartbeats 1000000 in
theorem grep_clo (e x : Value) (B : Nat) (p s : ByteArray) (h i d : Int) (he : e = .agg #[.int .i64 h, .int .i64 i, .string s, .int .i64 d]) (xi xk xl : Int) (xt : ByteArray) (xe : List EntD) (xv : Value) (hx : x = .agg #[.int .i64 xi, .int .i64 xk, .int .i64 xl, .string xt, xv]) (hs : xt.size ≤ 2000000) (w : World) (hT : TabM w) (hB : w.cell? ⟨B, 0, none⟩ = some (.string p)) :
  Calls Tryz.prog 109 #[e, x, .pointer (some ⟨B, 0, none⟩)] w fun r w' => r = .returned (.bool (grepB p ⟨xi, xk, xl, xt, xe⟩)) ∧ Below w.heap.size w w' := by
 subst he hx
 have hlt := World.block_lt_of_cell? _ _ hB
 simp only at hlt
 have Hg := Lib.hid (fun W hW => contains_any xt p hs W hW)
 have HT := Lib.hid hT
 clear hT
 by_cases hk : xk = 1
 ·subst hk
  rw [grep_file rfl]
  obtain ⟨r, hr⟩ : ∃ r, hasB p xt = r := ⟨_, rfl⟩
  simp only [hr] at Hg ⊢
  clear hr
  go_enter Tryz.func109, Tryz.ntmps109
  go_wp2_with (go_at_call 110; refine (Hg.out _ ((HT.out.al _).al _)).mono ?_; rintro e w5 ⟨rfl, rfl⟩)
  go_wp2
  go_ret
  exact ⟨rfl, belA (belA (bel0 w) _) _⟩
 ·rw [grep_other hk]
  have hk1 : (xk == 1) = false := by simpa using hk
  go_enter Tryz.func109, Tryz.ntmps109
  go_wp2
  go_ret
  exact ⟨rfl, belA (belA (bel0 w) _) _⟩

set_option maxRecDepth 100000 in
set_option maxHeartbeats 8000000 in
theorem found_grep_gen (v : Value) (V : VolD) (sm : szV V ≤ 1048576) (hv : VolP V.nx V.xs) (p : ByteArray) (_hp : p.size ≤ 2000000) (F : Int → ByteArray → List ByteArray) (a : Int) (k : Nat) (hk : k < V.xs.length) (hpl : plc V.xs a = (k : Int)) (pre : ByteArray) (hpre : pre.size ≤ 1000) (B : Nat)
  (hF : ∀ x ∈ V.xs, x.kd = 2 → ∀ t, (F x.id t).length ≤ 3200) (hsz : (fndR V.xs (fun _ x => grepB p x) F pre V.xs[k].es).length ≤ 3200)
  (hrec : ∀ (i : Nat) (hi : i < V.xs[k].es.length) (j : Nat) (hj : j < V.xs.length), plc V.xs V.xs[k].es[i].d = (j : Int) → V.xs[j].kd = 2 → ∀ W, TabM W → IsVolC W v V → W.cell? ⟨B, 0, none⟩ = some (.string p) →
   Calls Tryz.prog 180 #[v, .int .i64 V.xs[j].id, .string (pre ++ str [47] ++ V.xs[k].es[i].s), .func (.func 109) #[] #[.pointer (some ⟨B, 0, none⟩)]] W (FPost W (F V.xs[j].id (pre ++ str [47] ++ V.xs[k].es[i].s))))
  (w : World) (hT : TabM w) (hC : IsVolC w v V) (hB : w.cell? ⟨B, 0, none⟩ = some (.string p)) :
  Calls Tryz.prog 180 #[v, .int .i64 a, .string pre, .func (.func 109) #[] #[.pointer (some ⟨B, 0, none⟩)]] w (FPost w (fndR V.xs (fun _ x => grepB p x) F pre V.xs[k].es)) := by
 have hn := v_len sm
 have Hat := Lib.hid (fun a W hW => at_impl v V hn a W hW)
 have hrn := v_rows sm _ (List.getElem_mem hk)
 have Hsub := Lib.hid (fun e he => hv.not1 (List.getElem_mem hk) (e := e) he)
 have Hnm := Lib.hid (fun e he => es_name hv (List.getElem_mem hk) (e := e) he)
 have Hdat := Lib.hid (fun x hx => (ino_data hv (x := x) hx).1)
 have HFs := Lib.hid hF
 have Hrec := Lib.hid hrec
 have hvv := Lib.hid hC
 have HT := Lib.hid hT
 have HB := Lib.hid hB
 have hBl := World.block_lt_of_cell? _ _ hB
 simp only at hBl
 have h := hC.is
 obtain ⟨A, c, rfl, h⟩ := h
 obtain ⟨nx, xs⟩ := V
 simp only at Hat Hsub Hnm Hdat HFs Hrec hrn hk hpl hn hsz h ⊢
 have H := Lib.hid h
 clear h hC hF hrec sm hv hT hB
 obtain ⟨es, hes⟩ : ∃ es, xs[k].es = es := ⟨_, rfl⟩
 have HE := Lib.hid hes
 simp only [hes] at Hsub Hnm Hrec hrn hsz ⊢
 obtain ⟨P, hP⟩ : ∃ P : EntD → InoD → Bool, (fun _ x => grepB p x) = P := ⟨_, rfl⟩
 have HPE := Lib.hid (fun e x => show P e x = (fun _ x => grepB p x) e x by rw [hP])
 rw [hP] at hsz ⊢
 clear hP
 obtain ⟨m, hm⟩ : ∃ m, es.length = m := ⟨_, rfl⟩
 have HM := Lib.hid hm
 rw [hm] at hrn
 clear hm
 obtain ⟨n, hn'⟩ : ∃ n, xs.length = n := ⟨_, rfl⟩
 have HL := Lib.hid hn'
 have hkn : k < n := by omega
 simp only [hn'] at Hat hvv H hn Hrec
 have q0 : (0 : Int) ≤ ↑k := by omega
 have q1 : (↑k : Int) < ↑n := by omega
 obtain ⟨W1, hW1⟩ : ∃ W1, w.alloc (.cells #[.int .i64 nx, .slice A n c] 30) = W1 := ⟨_, rfl⟩
 have B1 : Below w.heap.size w W1 := by rw [← hW1]; exact belA (bel0 w) _
 have hV : Blk W1 w.heap.size 30 #[.int .i64 nx, .slice A n c] := by rw [← hW1]; exact Blk.new' _ _ _ _ rfl
 have S1 := hV.lt
 have HW1 := Lib.hid hW1
 have V0 := Lib.hid (hV.get (x := .int .i64 nx) 0 rfl)
 have V1 := Lib.hid (hV.get (x := .slice A n c) 1 rfl)
 clear hW1 hV
 obtain ⟨W2, hW2⟩ : ∃ W2, W1.alloc (.cells #[] 9) = W2 := ⟨_, rfl⟩
 have b2 : Below W1.heap.size W1 W2 := by rw [← hW2]; exact belA (bel0 W1) _
 have own2 : W2.ownsRow W1.heap.size 9 1 (.slice (some ⟨W1.heap.size, 0, none⟩) 0 0) 0 [] := by rw [← hW2]; exact World.ownsRow_lit W1 #[] 0 (Nat.le_refl _) (by unfold maxLen; omega) rfl
 have HW2 := Lib.hid hW2
 have B2 := belN B1 b2
 clear hW2
 have S1w : W1.heap.size = w.heap.size + 1 := by rw [← HW1.out]; simp
 have HS1 := Lib.hid S1w
 clear S1w
 obtain ⟨_, b, o, A', c', hA, hadb, _, _, _, _, z4', hrow⟩ := H.out.at_ hkn
 subst hA
 have z4 := keep1 B2 z4' (Nat.le_refl _)
 have v0 := keep1 b2 V0.out (Nat.le_refl _)
 have v1 := keep1 b2 V1.out (Nat.le_refl _)
 rw [HE.out, HM.out] at z4
 rw [HE.out, HM.out] at hrow
 have Hrow := Lib.hid hrow
 clear z4' hrow
 have Hat1 := Lib.hid (fun W hW => Hat.out a W hW)
 simp only [hpl] at Hat1
 go_enter Tryz.func180, Tryz.ntmps180
 go_wp2_with fail
 rw [HW1.out, ← HS1.out, HW2.out]
 go_region_held3 (fun w' => w'.cell? ⟨w.heap.size, 0, none⟩ = some (.int .i64 nx) ∧ w'.cell? ⟨w.heap.size, 1, none⟩ = some (.slice (some ⟨b, o, none⟩) n c) ∧ w'.cell? ⟨b, o + k * 5 + 4, none⟩ = some (.slice A' m c'))
  (first | go_keep | (refine ⟨keep1 hb5 ?_, keep1 hb5 ?_, keep1 hb5 ?_⟩ <;> go_keep))
  (first | (go_at_call 67; refine (Hat1.out _ (hvv.out.next B2.drew).is).mono ?_; rintro e w5 ⟨rfl, hb5⟩))
 have B5 := belN B2.drew hb5
 have b5 : Below W1.heap.size W1 w5 := b2.drew.trans (hb5.mono b2.size)
 have own5 := own_below (show W2.drew.ownsRow W1.heap.size 9 1 (.slice (some ⟨W1.heap.size, 0, none⟩) 0 0) 0 [] from own2) hb5 (Nat.le_refl _)
 clear v0 v1 z4 own2
 go_wp2
 go_loopw [9, 24] (fun x i wr => ∃ (q : Nat), q ≤ m ∧ i = .int .i64 q ∧ x.ownBlock ≠ none ∧ wr.ownsRow W1.heap.size 9 1 x (fndR xs P F pre (es.take q)).length (SS (fndR xs P F pre (es.take q))) ∧ Below W1.heap.size W1 wr)
  (fun _ i _ => m - (intOf i).toNat)
 case atStart => exact ⟨0, by omega, rfl, (by intro h; cases h), by rw [List.take_zero]; exact own5, b5⟩
 case round =>
  obtain ⟨q, hq, rfl, hnn, own, hbel⟩ := hrel
  have Hnn := Lib.hid hnn
  clear hnn
  have v0 := keep1 hbel V0.out (Nat.le_refl _)
  have v1 := keep1 hbel V1.out (Nat.le_refl _)
  have BB := belN B1 hbel
  have Own := Lib.hid own
  clear own own5
  by_cases hlt : q < m
  ·obtain ⟨hpx, b2x, o2, hA', hadb2, y0, y1, y2, y3⟩ := reads_ent (Hrow.out.below BB) hlt
   subst hA'
   have q2 : (0 : Int) ≤ ↑q := by omega
   have q3 : (↑q : Int) < ↑m := by omega
   obtain ⟨_, hsub⟩ := Hsub.out _ (List.getElem_mem hpx)
   obtain ⟨j, hj, hpj, _⟩ := plc_lt hsub
   have hjn : j < n := by have := HL.out; omega
   have q4 : (0 : Int) ≤ ↑j := by omega
   have q5 : (↑j : Int) < ↑n := by omega
   have Hst := Lib.hid (fndR_snoc (xs := xs) (P := P) (F := F) (pre := pre) hpx)
   have hFs := fndR_take xs P F pre es q
   have hFs2 := fndR_take xs P F pre es (q + 1)
   have Hone := Lib.hid (fndOne_at (P := P) (F := F) (pre := pre) hj hpj)
   have Hrc := Lib.hid (Hrec.out q hpx j hjn hpj)
   have hnm := Hnm.out _ (List.getElem_mem hpx)
   have Hat2 := Lib.hid (fun W hW => Hat.out es[q].d W hW)
   simp only [hpj] at Hat2
   obtain ⟨e, he⟩ : ∃ e, es[q] = e := ⟨_, rfl⟩
   rw [he] at y0 y1 y2 y3 hnm Hst
   simp only [he] at Hat2 Hone Hrc
   clear he hsub hpj
   obtain ⟨eh, ei, eS, ed⟩ := e
   simp only at y0 y1 y2 y3 hnm Hst Hat2 Hone Hrc
   obtain ⟨_, b', o', A3, c3, hA3, _, z0, z1, z2, z3, z4, _⟩ := (H.out.next BB).at_ hjn
   obtain ⟨rfl, rfl⟩ : b = b' ∧ o = o' := by simpa using hA3
   have hxd := Hdat.out _ (List.getElem_mem hj)
   have hxT := HFs.out _ (List.getElem_mem hj)
   obtain ⟨x, hx⟩ : ∃ x, xs[j] = x := ⟨_, rfl⟩
   rw [hx] at z0 z1 z2 z3 z4 hxd hxT
   simp only [hx] at Hone Hrc
   clear hx hA3
   obtain ⟨xi, xk, xl, xt, xe⟩ := x
   simp only at z0 z1 z2 z3 z4 hxd hxT Hone Hrc
   have hE := Blk.new' wr 72 #[.int .i64 eh, .int .i64 ei, .string eS, .int .i64 ed] wr.heap.size
   have hbE : Below wr.heap.size wr (wr.alloc (.cells #[.int .i64 eh, .int .i64 ei, .string eS, .int .i64 ed] 72)) := belA (bel0 _) _
   have x3 := hE.get (x := .int .i64 ed) 3 rfl
   go_wp2_with fail
   obtain ⟨w8, hw8e⟩ : ∃ W, wr.alloc (.cells #[.int .i64 eh, .int .i64 ei, .string eS, .int .i64 ed] 72) = W := ⟨_, rfl⟩
   rw [hw8e]
   have hb8 : Below wr.heap.size wr w8 := by rw [← hw8e]; exact hbE
   have E8 : Blk w8 wr.heap.size 72 #[.int .i64 eh, .int .i64 ei, .string eS, .int .i64 ed] := by rw [← hw8e]; exact hE
   obtain ⟨m3, hm3⟩ : ∃ m3, xe.length = m3 := ⟨_, rfl⟩
   rw [hm3] at z4
   have B8 := belN BB hb8
   have s0 := keep1 hb8 v0 (Nat.le_refl _)
   have s1 := keep1 hb8 v1 (Nat.le_refl _)
   have s2 := E8.get (x := .int .i64 ed) 3 rfl
   have s3 := keep1 hb8 z0 (Nat.le_refl _)
   have s4 := keep1 hb8 z1 (Nat.le_refl _)
   have s5 := keep1 hb8 z2 (Nat.le_refl _)
   have s6 := keep1 hb8 z3 (Nat.le_refl _)
   have s7 := keep1 hb8 z4 (Nat.le_refl _)
   clear hw8e v0 v1 y0 y1 y2 y3 z0 z1 z2 z3 z4 x3 hE hbE
   go_cut [12] from 28 to 60 (fun p wx => ∃ g : Nat, p = .pointer (some ⟨g, 0, none⟩) ∧ Hid (Blk wx g 70 #[.int .i64 xi, .int .i64 xk, .int .i64 xl, .string xt, .slice A3 m3 c3]) ∧ Below w8.heap.size w8 wx)
   case first =>
    refine wp_region_held_drew (S := fun w' => w'.cell? ⟨w.heap.size, 0, none⟩ = some (.int .i64 nx) ∧ w'.cell? ⟨w.heap.size, 1, none⟩ = some (.slice (some ⟨b, o, none⟩) n c) ∧ w'.cell? ⟨wr.heap.size, 3, none⟩ = some (.int .i64 ed) ∧ w'.cell? ⟨b, o + j * 5, none⟩ = some (.int .i64 xi) ∧ w'.cell? ⟨b, o + j * 5 + 1, none⟩ = some (.int .i64 xk) ∧ w'.cell? ⟨b, o + j * 5 + 2, none⟩ = some (.int .i64 xl) ∧ w'.cell? ⟨b, o + j * 5 + 3, none⟩ = some (.string xt) ∧ w'.cell? ⟨b, o + j * 5 + 4, none⟩ = some (.slice A3 m3 c3)) (by kernel_rfl) (by exact ⟨s0, s1, s2, s3, s4, s5, s6, s7⟩) (fun hHeld => ?_)
    refine foldH ?_
    intro r0 hr0
    have bw0 : Below w8.heap.size w8 r0 := by rw [hr0]; exact (bel0 w8).drew
    clear hr0 hHeld
    refine wpAnyH_take (i := 0) (oi := ?oi1) (v := ?v1) ?hi1 ?hs1 ?hf1 ?hr1 ?hQ1 ?hy1 ?hS1 ?hrest1
    case hi1 => (conv => lhs; simp only [List.getElem?_toArray, List.getElem?_cons_zero]); try exact rfl
    case hs1 => kernel_rfl
    case hf1 => kernel_rfl
    case hr1 => kernel_rfl
    case hQ1 => exact fun _ _ _ h => h
    case hS1 => exact ⟨keep1 (bw0) s0 (Nat.le_refl _), keep1 (bw0) s1 (Nat.le_refl _), keep1 (bw0) s2 (Nat.le_refl _), keep1 (bw0) s3 (Nat.le_refl _), keep1 (bw0) s4 (Nat.le_refl _), keep1 (bw0) s5 (Nat.le_refl _), keep1 (bw0) s6 (Nat.le_refl _), keep1 (bw0) s7 (Nat.le_refl _)⟩
    case hy1 => refine Or.inl ⟨by rfl, ?_⟩; intro w hSw; (try dsimp only at hSw); go_simp; (try with_reducible rfl)
    simp only [Act.put, List.setIfInBounds_toArray, List.set_cons_zero, List.set_cons_succ]
    refine wpAnyH_take (i := 1) (oi := ?oi2) (v := ?v2) ?hi2 ?hs2 ?hf2 ?hr2 ?hQ2 ?hy2 ?hS2 ?hrest2
    case hi2 => (conv => lhs; simp only [List.getElem?_toArray, List.getElem?_cons_zero, List.getElem?_cons_succ]); try exact rfl
    case hs2 => kernel_rfl
    case hf2 => kernel_rfl
    case hr2 => kernel_rfl
    case hQ2 => exact fun _ _ _ h => h
    case hS2 => exact ⟨keep1 (bw0) s0 (Nat.le_refl _), keep1 (bw0) s1 (Nat.le_refl _), keep1 (bw0) s2 (Nat.le_refl _), keep1 (bw0) s3 (Nat.le_refl _), keep1 (bw0) s4 (Nat.le_refl _), keep1 (bw0) s5 (Nat.le_refl _), keep1 (bw0) s6 (Nat.le_refl _), keep1 (bw0) s7 (Nat.le_refl _)⟩
    case hy2 => refine Or.inl ⟨by rfl, ?_⟩; intro w hSw; (try dsimp only at hSw); go_simp; (try with_reducible rfl)
    simp only [Act.put, List.setIfInBounds_toArray, List.set_cons_zero, List.set_cons_succ]
    refine wpAnyH_take (i := 2) (oi := ?oi3) (v := ?v3) ?hi3 ?hs3 ?hf3 ?hr3 ?hQ3 ?hy3 ?hS3 ?hrest3
    case hi3 => (conv => lhs; simp only [List.getElem?_toArray, List.getElem?_cons_zero, List.getElem?_cons_succ]); try exact rfl
    case hs3 => kernel_rfl
    case hf3 => kernel_rfl
    case hr3 => kernel_rfl
    case hQ3 => exact fun _ _ _ h => h
    case hS3 => exact ⟨keep1 (bw0) s0 (Nat.le_refl _), keep1 (bw0) s1 (Nat.le_refl _), keep1 (bw0) s2 (Nat.le_refl _), keep1 (bw0) s3 (Nat.le_refl _), keep1 (bw0) s4 (Nat.le_refl _), keep1 (bw0) s5 (Nat.le_refl _), keep1 (bw0) s6 (Nat.le_refl _), keep1 (bw0) s7 (Nat.le_refl _)⟩
    case hy3 => refine Or.inl ⟨by rfl, ?_⟩; intro w hSw; (try dsimp only at hSw); go_simp; (try with_reducible rfl)
    simp only [Act.put, List.setIfInBounds_toArray, List.set_cons_zero, List.set_cons_succ]
    refine wpAnyH_take (i := 3) (oi := ?oi4) (v := ?v4) ?hi4 ?hs4 ?hf4 ?hr4 ?hQ4 ?hy4 ?hS4 ?hrest4
    case hi4 => (conv => lhs; simp only [List.getElem?_toArray, List.getElem?_cons_zero, List.getElem?_cons_succ]); try exact rfl
    case hs4 => kernel_rfl
    case hf4 => kernel_rfl
    case hr4 => kernel_rfl
    case hQ4 => exact fun _ _ _ h => h
    case hS4 => exact ⟨keep1 (bw0) s0 (Nat.le_refl _), keep1 (bw0) s1 (Nat.le_refl _), keep1 (bw0) s2 (Nat.le_refl _), keep1 (bw0) s3 (Nat.le_refl _), keep1 (bw0) s4 (Nat.le_refl _), keep1 (bw0) s5 (Nat.le_refl _), keep1 (bw0) s6 (Nat.le_refl _), keep1 (bw0) s7 (Nat.le_refl _)⟩
    case hy4 => refine Or.inl ⟨by rfl, ?_⟩; intro w hSw; (try dsimp only at hSw); go_simp; (try with_reducible rfl)
    simp only [Act.put, List.setIfInBounds_toArray, List.set_cons_zero, List.set_cons_succ]
    refine wpAnyH_take (i := 4) (oi := ?oi5) (v := ?v5) ?hi5 ?hs5 ?hf5 ?hr5 ?hQ5 ?hy5 ?hS5 ?hrest5
    case hi5 => (conv => lhs; simp only [List.getElem?_toArray, List.getElem?_cons_zero, List.getElem?_cons_succ]); try exact rfl
    case hs5 => kernel_rfl
    case hf5 => kernel_rfl
    case hr5 => kernel_rfl
    case hQ5 => exact fun _ _ _ h => h
    case hS5 => exact ⟨keep1 (bw0) s0 (Nat.le_refl _), keep1 (bw0) s1 (Nat.le_refl _), keep1 (bw0) s2 (Nat.le_refl _), keep1 (bw0) s3 (Nat.le_refl _), keep1 (bw0) s4 (Nat.le_refl _), keep1 (bw0) s5 (Nat.le_refl _), keep1 (bw0) s6 (Nat.le_refl _), keep1 (bw0) s7 (Nat.le_refl _)⟩
    case hy5 => refine Or.inl ⟨by rfl, ?_⟩; intro w hSw; (try dsimp only at hSw); go_simp; (try with_reducible rfl)
    simp only [Act.put, List.setIfInBounds_toArray, List.set_cons_zero, List.set_cons_succ]
    refine wpAnyH_ready (rs := [5, 8]) (by kernel_rfl) (by simp) ?_
    refine AllReadyH.cons (o := ?oi6) ?hi6 (fun K hK => ?br6) (AllReadyH.cons (o := ?oi7) ?hi7 (fun K hK => ?br7) AllReadyH.nil)
    case hi6 => (conv => lhs; simp only [List.getElem?_toArray, List.getElem?_cons_zero, List.getElem?_cons_succ]); try exact rfl
    case hi7 => (conv => lhs; simp only [List.getElem?_toArray, List.getElem?_cons_zero, List.getElem?_cons_succ]); try exact rfl
    case br6 =>
     go_simp
     go_at_call 67
     refine (Hat2.out _ (hvv.out.next (belN B8 bw0)).is).mono ?_
     rintro e r1 ⟨rfl, hb1r⟩
     have bw1 : Below w8.heap.size w8 r1 := bw0.trans (hb1r.mono bw0.size)
     refine hK.out _ _ (by exact ⟨keep1 (bw1) s0 (Nat.le_refl _), keep1 (bw1) s1 (Nat.le_refl _), keep1 (bw1) s2 (Nat.le_refl _), keep1 (bw1) s3 (Nat.le_refl _), keep1 (bw1) s4 (Nat.le_refl _), keep1 (bw1) s5 (Nat.le_refl _), keep1 (bw1) s6 (Nat.le_refl _), keep1 (bw1) s7 (Nat.le_refl _)⟩) (fun _ => ?_)
     clear hK K
     refine wpAnyH_take (i := 6) (oi := ?oi8) (v := ?v8) ?hi8 ?hs8 ?hf8 ?hr8 ?hQ8 ?hy8 ?hS8 ?hrest8
     case hi8 => (conv => lhs; simp only [List.getElem?_toArray, List.getElem?_cons_zero, List.getElem?_cons_succ]); try exact rfl
     case hs8 => kernel_rfl
     case hf8 => kernel_rfl
     case hr8 => kernel_rfl
     case hQ8 => exact fun _ _ _ h => h
     case hS8 => exact ⟨keep1 (bw1) s0 (Nat.le_refl _), keep1 (bw1) s1 (Nat.le_refl _), keep1 (bw1) s2 (Nat.le_refl _), keep1 (bw1) s3 (Nat.le_refl _), keep1 (bw1) s4 (Nat.le_refl _), keep1 (bw1) s5 (Nat.le_refl _), keep1 (bw1) s6 (Nat.le_refl _), keep1 (bw1) s7 (Nat.le_refl _)⟩
     case hy8 => refine Or.inl ⟨by rfl, ?_⟩; intro w hSw; (try dsimp only at hSw); go_simp; (try with_reducible rfl)
     simp only [Act.put, List.setIfInBounds_toArray, List.set_cons_zero, List.set_cons_succ]
     refine wpAnyH_take (i := 7) (oi := ?oi9) (v := ?v9) ?hi9 ?hs9 ?hf9 ?hr9 ?hQ9 ?hy9 ?hS9 ?hrest9
     case hi9 => (conv => lhs; simp only [List.getElem?_toArray, List.getElem?_cons_zero, List.getElem?_cons_succ]); try exact rfl
     case hs9 => kernel_rfl
     case hf9 => kernel_rfl
     case hr9 => kernel_rfl
     case hQ9 => exact fun _ _ _ h => h
     case hS9 => exact ⟨keep1 (bw1) s0 (Nat.le_refl _), keep1 (bw1) s1 (Nat.le_refl _), keep1 (bw1) s2 (Nat.le_refl _), keep1 (bw1) s3 (Nat.le_refl _), keep1 (bw1) s4 (Nat.le_refl _), keep1 (bw1) s5 (Nat.le_refl _), keep1 (bw1) s6 (Nat.le_refl _), keep1 (bw1) s7 (Nat.le_refl _)⟩
     case hy9 => refine Or.inl ⟨by rfl, ?_⟩; intro w hSw; (try dsimp only at hSw); go_simp; (try with_reducible rfl)
     simp only [Act.put, List.setIfInBounds_toArray, List.set_cons_zero, List.set_cons_succ]
     refine wpAnyH_ready (rs := [8]) (by kernel_rfl) (by simp) ?_
     refine AllReadyH.cons (o := ?oi10) ?hi10 (fun K hK => ?br10) AllReadyH.nil
     case hi10 => (conv => lhs; simp only [List.getElem?_toArray, List.getElem?_cons_zero, List.getElem?_cons_succ]); try exact rfl
     case br10 =>
      go_simp
      refine hK.out _ _ (by exact ⟨keep1 (belA bw1 (.cells #[.int .i64 0, .int .i64 0, .int .i64 0, .string ⟨#[]⟩, .slice none 0 0] 70)) s0 (Nat.le_refl _), keep1 (belA bw1 (.cells #[.int .i64 0, .int .i64 0, .int .i64 0, .string ⟨#[]⟩, .slice none 0 0] 70)) s1 (Nat.le_refl _), keep1 (belA bw1 (.cells #[.int .i64 0, .int .i64 0, .int .i64 0, .string ⟨#[]⟩, .slice none 0 0] 70)) s2 (Nat.le_refl _), keep1 (belA bw1 (.cells #[.int .i64 0, .int .i64 0, .int .i64 0, .string ⟨#[]⟩, .slice none 0 0] 70)) s3 (Nat.le_refl _), keep1 (belA bw1 (.cells #[.int .i64 0, .int .i64 0, .int .i64 0, .string ⟨#[]⟩, .slice none 0 0] 70)) s4 (Nat.le_refl _), keep1 (belA bw1 (.cells #[.int .i64 0, .int .i64 0, .int .i64 0, .string ⟨#[]⟩, .slice none 0 0] 70)) s5 (Nat.le_refl _), keep1 (belA bw1 (.cells #[.int .i64 0, .int .i64 0, .int .i64 0, .string ⟨#[]⟩, .slice none 0 0] 70)) s6 (Nat.le_refl _), keep1 (belA bw1 (.cells #[.int .i64 0, .int .i64 0, .int .i64 0, .string ⟨#[]⟩, .slice none 0 0] 70)) s7 (Nat.le_refl _)⟩) (fun _ => ?_)
      clear hK K
      refine foldH ?_
      intro r2 hr2
      have bw2 : Below w8.heap.size w8 r2 := by rw [hr2]; exact belA bw1 _
      have kX2 : Blk r2 r1.heap.size 70 #[.int .i64 0, .int .i64 0, .int .i64 0, .string ⟨#[]⟩, .slice none 0 0] := by rw [hr2]; exact Blk.new' _ _ _ _ rfl
      have laX2 : w8.heap.size ≤ r1.heap.size := bw1.size
      clear hr2
      refine wpAnyH_ready (rs := [9]) (by kernel_rfl) (by simp) ?_
      refine AllReadyH.cons (o := ?oi11) ?hi11 (fun K hK => ?br11) AllReadyH.nil
      case hi11 => (conv => lhs; simp only [List.getElem?_toArray, List.getElem?_cons_zero, List.getElem?_cons_succ]); try exact rfl
      case br11 =>
       have x0 := kX2.get (x := .int .i64 0) 0 rfl
       have f0 := kX2.frozen 0
       have x1 := kX2.get (x := .int .i64 0) 1 rfl
       have f1 := kX2.frozen 1
       have x2 := kX2.get (x := .int .i64 0) 2 rfl
       have f2 := kX2.frozen 2
       have x3 := kX2.get (x := .string ⟨#[]⟩) 3 rfl
       have f3 := kX2.frozen 3
       have x4 := kX2.get (x := .slice none 0 0) 4 rfl
       have f4 := kX2.frozen 4
       have lE := kX2.lt
       go_simp
       refine hK.out _ _ (by exact ⟨keep1 (belC (belC (belC (belC (belC (bw2) _ _ laX2 _) _ _ laX2 _) _ _ laX2 _) _ _ laX2 _) _ _ laX2 _) s0 (Nat.le_refl _), keep1 (belC (belC (belC (belC (belC (bw2) _ _ laX2 _) _ _ laX2 _) _ _ laX2 _) _ _ laX2 _) _ _ laX2 _) s1 (Nat.le_refl _), keep1 (belC (belC (belC (belC (belC (bw2) _ _ laX2 _) _ _ laX2 _) _ _ laX2 _) _ _ laX2 _) _ _ laX2 _) s2 (Nat.le_refl _), keep1 (belC (belC (belC (belC (belC (bw2) _ _ laX2 _) _ _ laX2 _) _ _ laX2 _) _ _ laX2 _) _ _ laX2 _) s3 (Nat.le_refl _), keep1 (belC (belC (belC (belC (belC (bw2) _ _ laX2 _) _ _ laX2 _) _ _ laX2 _) _ _ laX2 _) _ _ laX2 _) s4 (Nat.le_refl _), keep1 (belC (belC (belC (belC (belC (bw2) _ _ laX2 _) _ _ laX2 _) _ _ laX2 _) _ _ laX2 _) _ _ laX2 _) s5 (Nat.le_refl _), keep1 (belC (belC (belC (belC (belC (bw2) _ _ laX2 _) _ _ laX2 _) _ _ laX2 _) _ _ laX2 _) _ _ laX2 _) s6 (Nat.le_refl _), keep1 (belC (belC (belC (belC (belC (bw2) _ _ laX2 _) _ _ laX2 _) _ _ laX2 _) _ _ laX2 _) _ _ laX2 _) s7 (Nat.le_refl _)⟩) (fun _ => ?_)
       clear hK K x0 f0 x1 f1 x2 f2 x3 f3 x4 f4 lE
       refine foldH ?_
       intro r3 hr3
       have bw3 : Below w8.heap.size w8 r3 := by rw [hr3]; exact belC (belC (belC (belC (belC (bw2) _ _ laX2 _) _ _ laX2 _) _ _ laX2 _) _ _ laX2 _) _ _ laX2 _
       have kX3 : Blk r3 r1.heap.size 70 #[.int .i64 xi, .int .i64 xk, .int .i64 xl, .string xt, .slice A3 m3 c3] := by rw [hr3]; exact (((((kX2).put 0 _ _ rfl).put 1 _ _ rfl).put 2 _ _ rfl).put 3 _ _ rfl).put 4 _ _ rfl
       clear hr3
       refine wpAnyH_done (by kernel_rfl) ?_ _
       go_wp2_with fail
       go_meet
       case rel => exact ⟨_, rfl, kX3, bw3⟩
    case br7 =>
     go_simp
     refine hK.out _ _ (by exact ⟨keep1 (belA bw0 (.cells #[.int .i64 0, .int .i64 0, .int .i64 0, .string ⟨#[]⟩, .slice none 0 0] 70)) s0 (Nat.le_refl _), keep1 (belA bw0 (.cells #[.int .i64 0, .int .i64 0, .int .i64 0, .string ⟨#[]⟩, .slice none 0 0] 70)) s1 (Nat.le_refl _), keep1 (belA bw0 (.cells #[.int .i64 0, .int .i64 0, .int .i64 0, .string ⟨#[]⟩, .slice none 0 0] 70)) s2 (Nat.le_refl _), keep1 (belA bw0 (.cells #[.int .i64 0, .int .i64 0, .int .i64 0, .string ⟨#[]⟩, .slice none 0 0] 70)) s3 (Nat.le_refl _), keep1 (belA bw0 (.cells #[.int .i64 0, .int .i64 0, .int .i64 0, .string ⟨#[]⟩, .slice none 0 0] 70)) s4 (Nat.le_refl _), keep1 (belA bw0 (.cells #[.int .i64 0, .int .i64 0, .int .i64 0, .string ⟨#[]⟩, .slice none 0 0] 70)) s5 (Nat.le_refl _), keep1 (belA bw0 (.cells #[.int .i64 0, .int .i64 0, .int .i64 0, .string ⟨#[]⟩, .slice none 0 0] 70)) s6 (Nat.le_refl _), keep1 (belA bw0 (.cells #[.int .i64 0, .int .i64 0, .int .i64 0, .string ⟨#[]⟩, .slice none 0 0] 70)) s7 (Nat.le_refl _)⟩) (fun _ => ?_)
     clear hK K
     refine foldH ?_
     intro r1 hr1
     have bw1 : Below w8.heap.size w8 r1 := by rw [hr1]; exact belA bw0 _
     have kX1 : Blk r1 r0.heap.size 70 #[.int .i64 0, .int .i64 0, .int .i64 0, .string ⟨#[]⟩, .slice none 0 0] := by rw [hr1]; exact Blk.new' _ _ _ _ rfl
     have laX1 : w8.heap.size ≤ r0.heap.size := bw0.size
     clear hr1
     refine wpAnyH_ready (rs := [5]) (by kernel_rfl) (by simp) ?_
     refine AllReadyH.cons (o := ?oi12) ?hi12 (fun K hK => ?br12) AllReadyH.nil
     case hi12 => (conv => lhs; simp only [List.getElem?_toArray, List.getElem?_cons_zero, List.getElem?_cons_succ]); try exact rfl
     case br12 =>
      go_simp
      go_at_call 67
      refine (Hat2.out _ (hvv.out.next (belN B8 bw1)).is).mono ?_
      rintro e r2 ⟨rfl, hb2r⟩
      have bw2 : Below w8.heap.size w8 r2 := bw1.trans (hb2r.mono bw1.size)
      refine hK.out _ _ (by exact ⟨keep1 (bw2) s0 (Nat.le_refl _), keep1 (bw2) s1 (Nat.le_refl _), keep1 (bw2) s2 (Nat.le_refl _), keep1 (bw2) s3 (Nat.le_refl _), keep1 (bw2) s4 (Nat.le_refl _), keep1 (bw2) s5 (Nat.le_refl _), keep1 (bw2) s6 (Nat.le_refl _), keep1 (bw2) s7 (Nat.le_refl _)⟩) (fun _ => ?_)
      clear hK K
      have kX2 := kX1.below hb2r kX1.lt
      refine wpAnyH_take (i := 6) (oi := ?oi13) (v := ?v13) ?hi13 ?hs13 ?hf13 ?hr13 ?hQ13 ?hy13 ?hS13 ?hrest13
      case hi13 => (conv => lhs; simp only [List.getElem?_toArray, List.getElem?_cons_zero, List.getElem?_cons_succ]); try exact rfl
      case hs13 => kernel_rfl
      case hf13 => kernel_rfl
      case hr13 => kernel_rfl
      case hQ13 => exact fun _ _ _ h => h
      case hS13 => exact ⟨keep1 (bw2) s0 (Nat.le_refl _), keep1 (bw2) s1 (Nat.le_refl _), keep1 (bw2) s2 (Nat.le_refl _), keep1 (bw2) s3 (Nat.le_refl _), keep1 (bw2) s4 (Nat.le_refl _), keep1 (bw2) s5 (Nat.le_refl _), keep1 (bw2) s6 (Nat.le_refl _), keep1 (bw2) s7 (Nat.le_refl _)⟩
      case hy13 => refine Or.inl ⟨by rfl, ?_⟩; intro w hSw; (try dsimp only at hSw); go_simp; (try with_reducible rfl)
      simp only [Act.put, List.setIfInBounds_toArray, List.set_cons_zero, List.set_cons_succ]
      refine wpAnyH_take (i := 7) (oi := ?oi14) (v := ?v14) ?hi14 ?hs14 ?hf14 ?hr14 ?hQ14 ?hy14 ?hS14 ?hrest14
      case hi14 => (conv => lhs; simp only [List.getElem?_toArray, List.getElem?_cons_zero, List.getElem?_cons_succ]); try exact rfl
      case hs14 => kernel_rfl
      case hf14 => kernel_rfl
      case hr14 => kernel_rfl
      case hQ14 => exact fun _ _ _ h => h
      case hS14 => exact ⟨keep1 (bw2) s0 (Nat.le_refl _), keep1 (bw2) s1 (Nat.le_refl _), keep1 (bw2) s2 (Nat.le_refl _), keep1 (bw2) s3 (Nat.le_refl _), keep1 (bw2) s4 (Nat.le_refl _), keep1 (bw2) s5 (Nat.le_refl _), keep1 (bw2) s6 (Nat.le_refl _), keep1 (bw2) s7 (Nat.le_refl _)⟩
      case hy14 => refine Or.inl ⟨by rfl, ?_⟩; intro w hSw; (try dsimp only at hSw); go_simp; (try with_reducible rfl)
      simp only [Act.put, List.setIfInBounds_toArray, List.set_cons_zero, List.set_cons_succ]
      refine wpAnyH_ready (rs := [9]) (by kernel_rfl) (by simp) ?_
      refine AllReadyH.cons (o := ?oi15) ?hi15 (fun K hK => ?br15) AllReadyH.nil
      case hi15 => (conv => lhs; simp only [List.getElem?_toArray, List.getElem?_cons_zero, List.getElem?_cons_succ]); try exact rfl
      case br15 =>
       have x0 := kX2.get (x := .int .i64 0) 0 rfl
       have f0 := kX2.frozen 0
       have x1 := kX2.get (x := .int .i64 0) 1 rfl
       have f1 := kX2.frozen 1
       have x2 := kX2.get (x := .int .i64 0) 2 rfl
       have f2 := kX2.frozen 2
       have x3 := kX2.get (x := .string ⟨#[]⟩) 3 rfl
       have f3 := kX2.frozen 3
       have x4 := kX2.get (x := .slice none 0 0) 4 rfl
       have f4 := kX2.frozen 4
       have lE := kX2.lt
       go_simp
       refine hK.out _ _ (by exact ⟨keep1 (belC (belC (belC (belC (belC (bw2) _ _ laX1 _) _ _ laX1 _) _ _ laX1 _) _ _ laX1 _) _ _ laX1 _) s0 (Nat.le_refl _), keep1 (belC (belC (belC (belC (belC (bw2) _ _ laX1 _) _ _ laX1 _) _ _ laX1 _) _ _ laX1 _) _ _ laX1 _) s1 (Nat.le_refl _), keep1 (belC (belC (belC (belC (belC (bw2) _ _ laX1 _) _ _ laX1 _) _ _ laX1 _) _ _ laX1 _) _ _ laX1 _) s2 (Nat.le_refl _), keep1 (belC (belC (belC (belC (belC (bw2) _ _ laX1 _) _ _ laX1 _) _ _ laX1 _) _ _ laX1 _) _ _ laX1 _) s3 (Nat.le_refl _), keep1 (belC (belC (belC (belC (belC (bw2) _ _ laX1 _) _ _ laX1 _) _ _ laX1 _) _ _ laX1 _) _ _ laX1 _) s4 (Nat.le_refl _), keep1 (belC (belC (belC (belC (belC (bw2) _ _ laX1 _) _ _ laX1 _) _ _ laX1 _) _ _ laX1 _) _ _ laX1 _) s5 (Nat.le_refl _), keep1 (belC (belC (belC (belC (belC (bw2) _ _ laX1 _) _ _ laX1 _) _ _ laX1 _) _ _ laX1 _) _ _ laX1 _) s6 (Nat.le_refl _), keep1 (belC (belC (belC (belC (belC (bw2) _ _ laX1 _) _ _ laX1 _) _ _ laX1 _) _ _ laX1 _) _ _ laX1 _) s7 (Nat.le_refl _)⟩) (fun _ => ?_)
       clear hK K x0 f0 x1 f1 x2 f2 x3 f3 x4 f4 lE
       refine foldH ?_
       intro r3 hr3
       have bw3 : Below w8.heap.size w8 r3 := by rw [hr3]; exact belC (belC (belC (belC (belC (bw2) _ _ laX1 _) _ _ laX1 _) _ _ laX1 _) _ _ laX1 _) _ _ laX1 _
       have kX3 : Blk r3 r0.heap.size 70 #[.int .i64 xi, .int .i64 xk, .int .i64 xl, .string xt, .slice A3 m3 c3] := by rw [hr3]; exact (((((kX2).put 0 _ _ rfl).put 1 _ _ rfl).put 2 _ _ rfl).put 3 _ _ rfl).put 4 _ _ rfl
       clear hr3
       refine wpAnyH_done (by kernel_rfl) ?_ _
       go_wp2_with fail
       go_meet
       case rel => exact ⟨_, rfl, kX3, bw3⟩
   case rest =>
    obtain ⟨g, rfl, hG, hb9⟩ := hcut
    have B9 := belN hb8 hb9
    have BB9 := belN BB B9
    have E9 := E8.below hb9 E8.lt
    have V0' := keep1 hb9 s0 (Nat.le_refl _)
    have V1' := keep1 hb9 s1 (Nat.le_refl _)
    clear s0 s1 s2 s3 s4 s5 s6 s7 E8
    have y0 := E9.get (x := .int .i64 eh) 0 rfl
    have y1 := E9.get (x := .int .i64 ei) 1 rfl
    have y2 := E9.get (x := .string eS) 2 rfl
    have y3 := E9.get (x := .int .i64 ed) 3 rfl
    have g0 := hG.out.get (x := .int .i64 xi) 0 rfl
    have g1 := hG.out.get (x := .int .i64 xk) 1 rfl
    have g2 := hG.out.get (x := .int .i64 xl) 2 rfl
    have g3 := hG.out.get (x := .string xt) 3 rfl
    have g4 := hG.out.get (x := .slice A3 m3 c3) 4 rfl
    have hv9 := Lib.hid (hvv.out.next BB9)
    have Own9 := Lib.hid (own_below Own.out B9 (Nat.le_refl _))
    clear Own
    obtain ⟨t, ht⟩ : ∃ t, pre ++ str [47] ++ eS = t := ⟨_, rfl⟩
    have ht2 : pre ++ ⟨#[47]⟩ ++ eS = t := ht
    have hs1 := str1_size 47
    have u1 : ¬ 9223372036854775807 < pre.size + 1 := by omega
    have u2 : ¬ 9223372036854775807 < pre.size + 1 + eS.size := by omega
    go_wp2_with fail
    simp only [ht] at Hone Hrc
    clear ht ht2 hs1 u1 u2
    obtain ⟨L, hL⟩ : ∃ L, fndR xs P F pre (es.take q) = L := ⟨_, rfl⟩
    rw [hL] at hFs Hst Own9
    clear hL
    obtain ⟨pb, hpb⟩ : ∃ pb, P ⟨eh, ei, eS, ed⟩ ⟨xi, xk, xl, xt, xe⟩ = pb := ⟨_, rfl⟩
    have Hclo : Calls Tryz.prog 109 #[.agg #[.int .i64 eh, .int .i64 ei, .string eS, .int .i64 ed], .agg #[.int .i64 xi, .int .i64 xk, .int .i64 xl, .string xt, .slice A3 m3 c3], .pointer (some ⟨B, 0, none⟩)] wc (fun r w' => r = .returned (.bool pb) ∧ Below wc.heap.size wc w') := by rw [← hpb, HPE.out]; exact grep_clo _ _ B p eS eh ei ed rfl xi xk xl xt xe (.slice A3 m3 c3) rfl (by omega) wc (HT.out.bl BB9) (keep1 BB9 HB.out (Nat.le_refl _))
    refine Hclo.mono ?_
    clear Hclo
    rintro e w10 ⟨rfl, hb10⟩
    have hG10 := hG.out.below hb10 hG.out.lt
    have Own10 := Lib.hid (own_below Own9.out hb10 (Nat.le_refl _))
    have bel10 := belN (belN hbel B9) hb10
    clear y0 y1 y2 y3 g0 g1 g2 g3 g4 V0' V1' Own9 E9
    cases pb
    case false =>
     have hpb2 : ¬ (P ⟨eh, ei, eS, ed⟩ ⟨xi, xk, xl, xt, xe⟩ = true) := by rw [hpb]; decide
     have hx63 := hFs2
     rw [Hst.out, Hone.out, if_neg hpb2] at hx63
     simp only [List.length_append, List.length_nil] at hx63
     have g0 := hG10.get (x := .int .i64 xi) 0 rfl
     have g1 := hG10.get (x := .int .i64 xk) 1 rfl
     have BB10 := belN B1 bel10
     have v0 := keep1 bel10 V0.out (Nat.le_refl _)
     have v1 := keep1 bel10 V1.out (Nat.le_refl _)
     by_cases hdx : xk = 2
     ·subst hdx
      have Hr := Lib.hid (Hrc.out rfl)
      obtain ⟨R, hR⟩ : ∃ R, F xi t = R := ⟨_, rfl⟩
      have hon : fndR xs P F pre (es.take (q + 1)) = L ++ R := by rw [Hst.out, Hone.out, if_neg hpb2, if_pos rfl, hR, List.nil_append]
      rw [if_pos rfl, hR] at hx63
      rw [hR] at Hr
      clear hR Hrc Hst Hone hFs2
      go_wp2_with (first | (go_at_call 180; refine (Hr.out w10 (HT.out.bl BB10) (hvv.out.next BB10) (keep1 BB10 HB.out (Nat.le_refl _))).mono ?_; rintro e w12 ⟨v12, rfl, _, own12, hb12⟩; obtain ⟨A12, c12, rfl, _, _, R12⟩ := own_vals own12; have Own12 := Lib.hid (own_below Own10.out hb12 (Nat.le_refl _)); have bel12 := belN bel10 hb12; clear own12) | (at_builtin; refine wpList_app _ rfl _ _ _ rfl Tryz.el_str Own12.out rfl R12 rfl (SS_cells _) (max_small (by omega)) (by omega) (by have := bel12.size; omega) ?_; intro v13 w13 own13 hg13 hor13 hb13; have Hnn13 := Lib.hid (blk_or Hnn.out hor13); clear hor13; have bel13 := bel12.trans hb13; have Own13 := Lib.hid own13; clear own13 hg13))
      first | (refine ⟨⟨q + 1, by omega, by go_num, Hnn13.out, ?_, bel13⟩, by simp [intOf]; omega⟩; rw [hon, List.length_append, SS_append]; exact Own13.out) | (go_roundw; case rel => (refine ⟨q + 1, by omega, by go_num, Hnn13.out, ?_, bel13⟩; rw [hon, List.length_append, SS_append]; exact Own13.out); case measure => (simp [intOf]; omega))
     ·have hx9 : (xk == 2) = false := by simpa using hdx
      have hon : fndR xs P F pre (es.take (q + 1)) = L := by rw [Hst.out, Hone.out, if_neg hpb2, if_neg hdx, List.nil_append, List.append_nil]
      go_wp2_with fail
      first | (refine ⟨⟨q + 1, by omega, by go_num, Hnn.out, ?_, bel10⟩, by simp [intOf]; omega⟩; rw [hon]; exact Own10.out) | (go_roundw; case rel => (refine ⟨q + 1, by omega, by go_num, Hnn.out, ?_, bel10⟩; rw [hon]; exact Own10.out); case measure => (simp [intOf]; omega))
    case true =>
     have hx63 := hFs2
     rw [Hst.out, Hone.out, if_pos hpb] at hx63
     simp only [List.length_append, List.length_cons, List.length_nil] at hx63
     have ga := (hG10.alloc (.cells #[.string t] 9))
     by_cases hdx : xk = 2
     ·subst hdx
      have Hr := Lib.hid (Hrc.out rfl)
      obtain ⟨R, hR⟩ : ∃ R, F xi t = R := ⟨_, rfl⟩
      have hon : fndR xs P F pre (es.take (q + 1)) = L ++ [t] ++ R := by rw [Hst.out, Hone.out, if_pos hpb, if_pos rfl, hR, List.append_assoc]
      rw [if_pos rfl, hR] at hx63
      rw [hR] at Hr
      clear hR Hrc Hst Hone hFs2
      go_wp2_with (first | (at_builtin; refine wpList_app _ rfl _ _ _ rfl Tryz.el_str (Own10.out.alloc _) rfl (reads_new _ _ _ _ 1 (by rfl)) rfl (by simp [Value.oneCell']) (max_small (by omega)) (by omega) (by have := bel10.size; simp; omega) ?_; intro v5 w11 own11 hg11 hor11 hb11; have Hnn11 := Lib.hid (blk_or Hnn.out hor11); clear hor11; have hG11 := ga.grown hg11 (own_blk_ne (Own10.out.alloc _) ga (by decide)).symm; have bel11 := (belA bel10 (.cells #[.string t] 9)).trans hb11; have Own11 := Lib.hid own11; clear own11 hg11; have g0 := hG11.get (x := .int .i64 xi) 0 rfl; have g1 := hG11.get (x := .int .i64 2) 1 rfl; have BB11 := belN B1 bel11; have v0 := keep1 bel11 V0.out (Nat.le_refl _); have v1 := keep1 bel11 V1.out (Nat.le_refl _)) | (go_at_call 180; refine (Hr.out w11 (HT.out.bl BB11) (hvv.out.next BB11) (keep1 BB11 HB.out (Nat.le_refl _))).mono ?_; rintro e w12 ⟨v12, rfl, _, own12, hb12⟩; obtain ⟨A12, c12, rfl, _, _, R12⟩ := own_vals own12; have Own12 := Lib.hid (own_below Own11.out hb12 (Nat.le_refl _)); have bel12 := belN bel11 hb12; clear own12) | (at_builtin; refine wpList_app _ rfl _ _ _ rfl Tryz.el_str Own12.out rfl R12 rfl (SS_cells _) (max_small (by omega)) (by omega) (by have := bel12.size; omega) ?_; intro v13 w13 own13 hg13 hor13 hb13; have Hnn13 := Lib.hid (blk_or Hnn11.out hor13); clear hor13; have bel13 := bel12.trans hb13; have Own13 := Lib.hid own13; clear own13 hg13))
      first | (refine ⟨⟨q + 1, by omega, by go_num, Hnn13.out, ?_, bel13⟩, by simp [intOf]; omega⟩; rw [hon, List.length_append, SS_append, List.length_append, SS_append]; exact Own13.out) | (go_roundw; case rel => (refine ⟨q + 1, by omega, by go_num, Hnn13.out, ?_, bel13⟩; rw [hon, List.length_append, SS_append, List.length_append, SS_append]; exact Own13.out); case measure => (simp [intOf]; omega))
     ·have hx9 : (xk == 2) = false := by simpa using hdx
      have hon : fndR xs P F pre (es.take (q + 1)) = L ++ [t] := by rw [Hst.out, Hone.out, if_pos hpb, if_neg hdx, List.append_nil]
      go_wp2_with (at_builtin; refine wpList_app _ rfl _ _ _ rfl Tryz.el_str (Own10.out.alloc _) rfl (reads_new _ _ _ _ 1 (by rfl)) rfl (by simp [Value.oneCell']) (max_small (by omega)) (by omega) (by have := bel10.size; simp; omega) ?_; intro v5 w11 own11 hg11 hor11 hb11; have Hnn11 := Lib.hid (blk_or Hnn.out hor11); clear hor11; have hG11 := ga.grown hg11 (own_blk_ne (Own10.out.alloc _) ga (by decide)).symm; have bel11 := (belA bel10 (.cells #[.string t] 9)).trans hb11; have Own11 := Lib.hid own11; clear own11 hg11; have g0 := hG11.get (x := .int .i64 xi) 0 rfl; have g1 := hG11.get (x := .int .i64 xk) 1 rfl; have BB11 := belN B1 bel11; have v0 := keep1 bel11 V0.out (Nat.le_refl _); have v1 := keep1 bel11 V1.out (Nat.le_refl _))
      first | (refine ⟨⟨q + 1, by omega, by go_num, Hnn11.out, ?_, bel11⟩, by simp [intOf]; omega⟩; rw [hon, List.length_append, SS_append]; exact Own11.out) | (go_roundw; case rel => (refine ⟨q + 1, by omega, by go_num, Hnn11.out, ?_, bel11⟩; rw [hon, List.length_append, SS_append]; exact Own11.out); case measure => (simp [intOf]; omega))
  ·obtain rfl : q = m := by omega
   have Hf := Lib.hid (show fndR xs P F pre (es.take q) = fndR xs P F pre es by rw [List.take_of_length_le (by have := HM.out; omega)])
   have own := Own.out
   rw [Hf.out] at own
   clear v0 v1
   go_wp2
   go_ret
   exact ⟨_, rfl, Hnn.out, own_more own (by rw [HS1.out]; omega), BB⟩

end Go.Proofs.YthdbomkddpnhaaaGreatDoor

