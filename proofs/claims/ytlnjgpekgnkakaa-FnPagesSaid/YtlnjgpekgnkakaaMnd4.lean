/- A page of one entry is mended: way 4. -/
import Derived.Test.YtlnjgpekgnkakaaPgMnd
import Derived.Test.YtlnjgpekgnkakaaRegH
namespace Go.Proofs.Ytlnjgpekgnkakaa
open Go Go.RowKit

set_option maxRecDepth 100000 in
set_option maxHeartbeats 8000000 in
theorem mended_4 (lo g0 n c0 k : Nat) (L : List PgD) (w : World) (hN : L.length = n) (h8 : n ≤ 8) (hk : k < n) (hf : ∀ p ∈ L, full p) (hlen : ∀ p ∈ L, p.xs.length ≤ 4) (hne : ∀ p ∈ L, 0 < p.xs.length) (HO : OwnP w lo L) (HY : w.ownsRow lo 25 1 (.slice (some ⟨g0, 0, none⟩) n c0) n (PV L))
    (hc : k + 1 = n) (h0 : 0 < k) (h3 : ∀ (h : k - 1 < L.length), ¬ 2 < L[k - 1].xs.length) :
    Calls Try.prog 17 #[.slice (some ⟨g0, 0, none⟩) n c0, .int .i64 k] w fun r w' => MendPost w lo (L.map PgD.con) k r w' := by
  have hO := Lib.hid HO
  have hY := Lib.hid HY
  have hlo : lo ≤ w.heap.size := by have := HY.lt g0 rfl; omega
  have lg0 := (HY.lt g0 rfl).1
  have lg1 := (HY.lt g0 rfl).2
  have kL : k < L.length := by omega
  obtain ⟨j, hj⟩ : ∃ j, j = k - 1 := ⟨_, rfl⟩
  have jL : j < L.length := by omega
  obtain ⟨a, ha, ma, da, va, ya, ca, nea⟩ := pgf HO HY hf (k := k) (kL)
  have oa := Lib.hid da.1
  have ta := con_at hf (k := k) (kL) ha
  have la := hlen _ ma
  have za := hne _ ma
  have ba := da.lt
  obtain ⟨p, hp, mp, dp, vp, yp, cp, nep⟩ := pgf HO HY hf (k := j) (jL)
  have op := Lib.hid dp.1
  have tp := con_at hf (k := j) (jL) hp
  have lp := hlen _ mp
  have zp := hne _ mp
  have bp := dp.lt
  have h3p : ¬ 2 < p.xs.length := by have := h3 (by omega); rw [show L[k - 1]'(by omega) = p by rw [← hp]; congr 1; exact hj.symm] at this; exact this
  have hab : a.g ≠ p.g := by have := pg_apart HO (i := k) (j := j) kL jL (by omega); rw [ha, hp] at this; exact this
  have hq1 : (L.map PgD.con).length = n := by rw [List.length_map, hN]
  have hM : mendP (L.map PgD.con) k = ((L.map PgD.con).set j (p.xs ++ a.xs)).take k ++ ((L.map PgD.con).set j (p.xs ++ a.xs)).drop (k + 1) := by
    unfold mendP
    rw [if_neg (by rw [hq1]; exact fun h => absurd h.1 (by omega)), ← hj, if_neg (by rw [tp]; exact fun h => h3p h.2), if_neg (by rw [hq1]; omega), ta, tp]
  have HM := Lib.hid hM
  have q0 : (0 : Int) ≤ (k : Int) := by omega
  have q1 : (k : Int) < (n : Int) := by omega
  have wn : IntKind.i64.wrap ((n : Int) - 1) = (n : Int) - 1 := by rw [IntKind.wrap_i64]; omega
  have q2 : (0 : Int) ≤ (j : Int) := by omega
  have q3 : (j : Int) < (n : Int) := by omega
  have wj : IntKind.i64.wrap ((k : Int) - 1) = (j : Int) := by rw [IntKind.wrap_i64]; omega
  have wk : IntKind.i64.wrap ((k : Int) + 1) = (k : Int) + 1 := by rw [IntKind.wrap_i64]; omega
  have q4 : ¬ ((k : Int) < (n : Int) - 1) := by omega
  have q5 : ¬ (((p.xs.length : Nat) : Int) > 2) := by omega
  have q6 : ¬ (2 < p.xs.length) := h3p
  have q7 : (k : Int) > 0 := by omega
  have nki : j ≠ k := by omega
  clear hj h3p hM h3 HO HY hlen hne hf hc
  go_enter Try.func17, Try.ntmps17
  go_wp2_with fail
  have ypA : w.drew.cell? _ = _ := yp
  have yaA : w.drew.cell? _ = _ := ya
  have HPA := Lib.hid (hO.out.bl (bel0 _).drew)
  have YA := Lib.hid (own_below (w := w) hY.out (bel0 _).drew (Nat.le_refl _))
  have oxA := Lib.hid (own_below (w := w) op.out (bel0 _).drew (Nat.le_refl _))
  have rdA : Reads w.drew w.drew.heap.size 4 (some ⟨a.g, 0, none⟩) a.xs.length (ES a.xs) := Reads.of_own (own_below (w := w) oa.out (bel0 _).drew (Nat.le_refl _))
  have BA : Below lo w w.drew := (Below.refl lo w).drew
  have sA : w.drew.heap.size = w.heap.size := rfl
  refine wp_region_held_drew (S := fun w' => w'.cell? ⟨g0, k, none⟩ = some (.slice (some ⟨a.g, 0, none⟩) a.xs.length a.c)) (by kernel_rfl) ya (fun hHeld => ?_)
  refine wpAnyH_take (i := 0) (oi := ?oi1) (v := ?v1) ?hi1 ?hs1 ?hf1 ?hr1 ?hQ1 ?hy1 ?hS1 ?hrest1
  case hi1 => (conv => lhs; simp only [List.getElem?_toArray, List.getElem?_cons_zero]); try exact rfl
  case hs1 => kernel_rfl
  case hf1 => kernel_rfl
  case hr1 => kernel_rfl
  case hQ1 => exact fun _ _ _ h => h
  case hS1 => assumption
  case hy1 => refine Or.inl ⟨by rfl, ?_⟩; intro w hSw; (try dsimp only at hSw); go_simp; (try with_reducible rfl)
  simp only [Act.put, List.setIfInBounds_toArray, List.set_cons_zero, List.set_cons_succ]
  refine wpAnyH_take (i := 1) (oi := ?oi2) (v := ?v2) ?hi2 ?hs2 ?hf2 ?hr2 ?hQ2 ?hy2 ?hS2 ?hrest2
  case hi2 => (conv => lhs; simp only [List.getElem?_toArray, List.getElem?_cons_zero, List.getElem?_cons_succ]); try exact rfl
  case hs2 => kernel_rfl
  case hf2 => kernel_rfl
  case hr2 => kernel_rfl
  case hQ2 => exact fun _ _ _ h => h
  case hS2 => assumption
  case hy2 => refine Or.inl ⟨by rfl, ?_⟩; intro w hSw; (try dsimp only at hSw); go_simp; (try with_reducible rfl)
  simp only [Act.put, List.setIfInBounds_toArray, List.set_cons_zero, List.set_cons_succ]
  refine wpAnyH_take (i := 2) (oi := ?oi3) (v := ?v3) ?hi3 ?hs3 ?hf3 ?hr3 ?hQ3 ?hy3 ?hS3 ?hrest3
  case hi3 => (conv => lhs; simp only [List.getElem?_toArray, List.getElem?_cons_zero, List.getElem?_cons_succ]); try exact rfl
  case hs3 => kernel_rfl
  case hf3 => kernel_rfl
  case hr3 => kernel_rfl
  case hQ3 => exact fun _ _ _ h => h
  case hS3 => assumption
  case hy3 => refine Or.inl ⟨by rfl, ?_⟩; intro w hSw; (try dsimp only at hSw); go_simp; (try with_reducible rfl)
  simp only [Act.put, List.setIfInBounds_toArray, List.set_cons_zero, List.set_cons_succ]
  refine wpAnyH_take (i := 3) (oi := ?oi4) (v := ?v4) ?hi4 ?hs4 ?hf4 ?hr4 ?hQ4 ?hy4 ?hS4 ?hrest4
  case hi4 => (conv => lhs; simp only [List.getElem?_toArray, List.getElem?_cons_zero, List.getElem?_cons_succ]); try exact rfl
  case hs4 => kernel_rfl
  case hf4 => kernel_rfl
  case hr4 => kernel_rfl
  case hQ4 => exact fun _ _ _ h => h
  case hS4 => assumption
  case hy4 => refine Or.inl ⟨by rfl, ?_⟩; intro w hSw; (try dsimp only at hSw); go_simp; (try with_reducible rfl)
  simp only [Act.put, List.setIfInBounds_toArray, List.set_cons_zero, List.set_cons_succ]
  refine wpAnyH_take (i := 4) (oi := ?oi5) (v := ?v5) ?hi5 ?hs5 ?hf5 ?hr5 ?hQ5 ?hy5 ?hS5 ?hrest5
  case hi5 => (conv => lhs; simp only [List.getElem?_toArray, List.getElem?_cons_zero, List.getElem?_cons_succ]); try exact rfl
  case hs5 => kernel_rfl
  case hf5 => kernel_rfl
  case hr5 => kernel_rfl
  case hQ5 => exact fun _ _ _ h => h
  case hS5 => assumption
  case hy5 => refine Or.inl ⟨by rfl, ?_⟩; intro w hSw; (try dsimp only at hSw); go_simp; (try with_reducible rfl)
  simp only [Act.put, List.setIfInBounds_toArray, List.set_cons_zero, List.set_cons_succ]
  refine wpAnyH_take (i := 5) (oi := ?oi6) (v := ?v6) ?hi6 ?hs6 ?hf6 ?hr6 ?hQ6 ?hy6 ?hS6 ?hrest6
  case hi6 => (conv => lhs; simp only [List.getElem?_toArray, List.getElem?_cons_zero, List.getElem?_cons_succ]); try exact rfl
  case hs6 => kernel_rfl
  case hf6 => kernel_rfl
  case hr6 => kernel_rfl
  case hQ6 => exact fun _ _ _ h => h
  case hS6 => assumption
  case hy6 => refine Or.inl ⟨by rfl, ?_⟩; intro w hSw; (try dsimp only at hSw); go_simp; (try with_reducible rfl)
  simp only [Act.put, List.setIfInBounds_toArray, List.set_cons_zero, List.set_cons_succ]
  refine wpAnyH_take (i := 6) (oi := ?oi7) (v := ?v7) ?hi7 ?hs7 ?hf7 ?hr7 ?hQ7 ?hy7 ?hS7 ?hrest7
  case hi7 => (conv => lhs; simp only [List.getElem?_toArray, List.getElem?_cons_zero, List.getElem?_cons_succ]); try exact rfl
  case hs7 => kernel_rfl
  case hf7 => kernel_rfl
  case hr7 => kernel_rfl
  case hQ7 => exact fun _ _ _ h => h
  case hS7 => assumption
  case hy7 => refine Or.inl ⟨by rfl, ?_⟩; intro w hSw; (try dsimp only at hSw); go_simp; (try with_reducible rfl)
  simp only [Act.put, List.setIfInBounds_toArray, List.set_cons_zero, List.set_cons_succ]
  refine wpAnyH_take (i := 8) (oi := ?oi8) (v := ?v8) ?hi8 ?hs8 ?hf8 ?hr8 ?hQ8 ?hy8 ?hS8 ?hrest8
  case hi8 => (conv => lhs; simp only [List.getElem?_toArray, List.getElem?_cons_zero, List.getElem?_cons_succ]); try exact rfl
  case hs8 => kernel_rfl
  case hf8 => kernel_rfl
  case hr8 => kernel_rfl
  case hQ8 => exact fun _ _ _ h => h
  case hS8 => assumption
  case hy8 => refine Or.inl ⟨by rfl, ?_⟩; intro w hSw; (try dsimp only at hSw); go_simp; (try with_reducible rfl)
  simp only [Act.put, List.setIfInBounds_toArray, List.set_cons_zero, List.set_cons_succ]
  refine wpAnyH_take (i := 9) (oi := ?oi9) (v := ?v9) ?hi9 ?hs9 ?hf9 ?hr9 ?hQ9 ?hy9 ?hS9 ?hrest9
  case hi9 => (conv => lhs; simp only [List.getElem?_toArray, List.getElem?_cons_zero, List.getElem?_cons_succ]); try exact rfl
  case hs9 => kernel_rfl
  case hf9 => kernel_rfl
  case hr9 => kernel_rfl
  case hQ9 => exact fun _ _ _ h => h
  case hS9 => assumption
  case hy9 => refine Or.inl ⟨by rfl, ?_⟩; intro w hSw; (try dsimp only at hSw); go_simp; (try with_reducible rfl)
  simp only [Act.put, List.setIfInBounds_toArray, List.set_cons_zero, List.set_cons_succ]
  refine wpAnyH_take (i := 10) (oi := ?oi10) (v := ?v10) ?hi10 ?hs10 ?hf10 ?hr10 ?hQ10 ?hy10 ?hS10 ?hrest10
  case hi10 => (conv => lhs; simp only [List.getElem?_toArray, List.getElem?_cons_zero, List.getElem?_cons_succ]); try exact rfl
  case hs10 => kernel_rfl
  case hf10 => kernel_rfl
  case hr10 => kernel_rfl
  case hQ10 => exact fun _ _ _ h => h
  case hS10 => assumption
  case hy10 => refine Or.inl ⟨by rfl, ?_⟩; intro w hSw; (try dsimp only at hSw); go_simp; (try with_reducible rfl)
  simp only [Act.put, List.setIfInBounds_toArray, List.set_cons_zero, List.set_cons_succ]
  refine wpAnyH_take (i := 11) (oi := ?oi11) (v := ?v11) ?hi11 ?hs11 ?hf11 ?hr11 ?hQ11 ?hy11 ?hS11 ?hrest11
  case hi11 => (conv => lhs; simp only [List.getElem?_toArray, List.getElem?_cons_zero, List.getElem?_cons_succ]); try exact rfl
  case hs11 => kernel_rfl
  case hf11 => kernel_rfl
  case hr11 => kernel_rfl
  case hQ11 => exact fun _ _ _ h => h
  case hS11 => assumption
  case hy11 => refine Or.inl ⟨by rfl, ?_⟩; intro w hSw; (try dsimp only at hSw); go_simp; (try with_reducible rfl)
  simp only [Act.put, List.setIfInBounds_toArray, List.set_cons_zero, List.set_cons_succ]
  refine wpAnyH_ready (rs := [7]) (by kernel_rfl) (by simp) ?_
  refine AllReadyH.cons (o := ?oi12) ?hi12 (fun K hK => ?_) AllReadyH.nil
  case hi12 => (conv => lhs; simp only [List.getElem?_toArray, List.getElem?_cons_zero, List.getElem?_cons_succ]); try exact rfl
  go_simp
  refine hK.out _ _ hHeld (fun hHeld12 => ?_)
  clear hK K
  try simp only [Act.put, List.setIfInBounds_toArray, List.set_cons_zero, List.set_cons_succ]
  refine wpAnyH_ready (rs := [12]) (by kernel_rfl) (by simp) ?_
  refine AllReadyH.cons (o := ?oi13) ?hi13 (fun K hK => ?_) AllReadyH.nil
  case hi13 => (conv => lhs; simp only [List.getElem?_toArray, List.getElem?_cons_zero, List.getElem?_cons_succ]); try exact rfl
  refine step_app _ (by rfl) _ _ 25 (by rfl) Try.el_ent oxA.out (by rfl) rdA (by rfl) (ES_cells a.xs) (max_small (by omega)) (by omega) (by first | omega | (simp; done) | (simp; omega)) ?_
  intro v12 w12 own12 hG12 ho12 hB12
  obtain ⟨gq, cq, rfl⟩ := own_form1 own12 (by omega)
  have ys12 := hG12.cell yaA nep
  have Y12 := Lib.hid (YA.out.kept hG12 (.inr nep))
  have yx12 := hG12.cell ypA nep
  have f12 := own_frozen Y12.out j
  have nk : (⟨g0, j, none⟩ : Addr) ≠ ⟨g0, k, none⟩ := fun e => nki (by injection e)
  try simp only [Act.put, List.setIfInBounds_toArray, List.set_cons_zero, List.set_cons_succ]
  refine hK.out _ _ ys12 (fun hHeld13 => ?_)
  clear hK K
  try simp only [Act.put, List.setIfInBounds_toArray, List.set_cons_zero, List.set_cons_succ]
  refine wpAnyH_take (i := 13) (oi := ?oi14) (v := ?v14) ?hi14 ?hs14 ?hf14 ?hr14 ?hQ14 ?hy14 ?hS14 ?hrest14
  case hi14 => (conv => lhs; simp only [List.getElem?_toArray, List.getElem?_cons_zero, List.getElem?_cons_succ]); try exact rfl
  case hs14 => kernel_rfl
  case hf14 => kernel_rfl
  case hr14 => kernel_rfl
  case hQ14 => exact fun _ _ _ h => h
  case hS14 => assumption
  case hy14 => refine Or.inl ⟨by rfl, ?_⟩; intro w hSw; (try dsimp only at hSw); go_simp; (try with_reducible rfl)
  simp only [Act.put, List.setIfInBounds_toArray, List.set_cons_zero, List.set_cons_succ]
  refine wpAnyH_ready (rs := [14]) (by kernel_rfl) (by simp) ?_
  refine AllReadyH.cons (o := ?oi15) ?hi15 (fun K hK => ?_) AllReadyH.nil
  case hi15 => (conv => lhs; simp only [List.getElem?_toArray, List.getElem?_cons_zero, List.getElem?_cons_succ]); try exact rfl
  go_simp
  refine hK.out _ _ (cellS ys12 nk) (fun hHeld15 => ?_)
  clear hK K
  try simp only [Act.put, List.setIfInBounds_toArray, List.set_cons_zero, List.set_cons_succ]
  refine wpAnyH_done (by kernel_rfl) ?_ _
  obtain ⟨q, hq⟩ : ∃ q : PgD, q = ⟨gq, cq, p.xs ++ a.xs, p.xs.length + a.xs.length, cq⟩ := ⟨_, rfl⟩
  have hqv : q.val = .slice (some ⟨gq, 0, none⟩) (p.xs.length + a.xs.length) cq := by rw [hq]; rfl
  have hqd : OwnD w12 lo q := by
    rw [hq]
    refine ⟨?_, by simp⟩
    simp only [List.length_append, ES_append]
    exact own12
  have HP12 := Lib.hid (HPA.out.set jL (by rw [hp]; exact hG12) hqd (by
    rw [hq, hp]
    exact ho12.elim (fun h => .inl (by injection h)) (fun h => .inr (by injection h with h; have h2 : gq = w.heap.size := h.trans sA; simp only; rw [sA]; omega))))
  have HP13 := Lib.hid (HP12.out.app Y12.out (show w12.grownBy (w12.setCell ⟨g0, j, none⟩ (.slice (some ⟨gq, 0, none⟩) (p.xs.length + a.xs.length) cq)) (some g0) from only_sc (grown_refl _ _) j _))
  have y := own_set Y12.out j q.val
  rw [PV_set, hqv] at y
  have Y13 := Lib.hid y
  have B13 := Lib.hid ((BA.trans hB12).setCell (p := ⟨g0, j, none⟩) lg0 (.slice (some ⟨gq, 0, none⟩) (p.xs.length + a.xs.length) cq))
  have hql : q.con = p.xs ++ a.xs := by rw [hq]; exact List.take_of_length_le (by simp)
  clear y rdA BA HPA YA oxA Y12 HP12 hqd nk f12 ys12 yx12 own12 hG12 ho12 hB12 hq hqv
  generalize (w12.setCell ⟨g0, j, none⟩ (.slice (some ⟨gq, 0, none⟩) (p.xs.length + a.xs.length) cq)) = w13 at B13 HP13 Y13 ⊢
  have hsl : (L.set j q).length = n := by rw [List.length_set]; exact hN
  have l13 : lo ≤ w13.heap.size := by have := (Y13.out.lt g0 rfl).2; omega
  go_wp2_with fail
  refine (delP_any lo n k g0 c0 (L.set j q) w13 (by omega) hk hsl l13 Y13.out).mono ?_
  rintro r w14 ⟨rfl, own14, hB14, hG14⟩
  have HP14 := Lib.hid ((HP13.out.app Y13.out hG14).sub (M := (L.set j q).take k ++ (L.set j q).drop (k + 1)) (by
    have h := (List.Sublist.refl ((L.set j q).take k)).append (show ((L.set j q).drop (k + 1)).Sublist ((L.set j q).drop k) by rw [← List.drop_drop]; exact List.drop_sublist _ _)
    rwa [List.take_append_drop] at h))
  have hml : ((L.set j q).take k ++ (L.set j q).drop (k + 1)).length = n - 1 := by rw [List.length_append, List.length_take, List.length_drop, hsl]; omega
  have hpg := HP14.out.pages (g := g0) (c := c0) (by rw [hml]; exact own14)
  rw [hml, List.map_append, List.map_take, List.map_drop, List.map_set, hql, ← HM.out] at hpg
  have HPG := Lib.hid hpg
  clear hpg own14
  go_wp2
  go_ret
  exact ⟨_, n - 1, c0, rfl, HPG.out, B13.out.trans hB14⟩

end Go.Proofs.Ytlnjgpekgnkakaa
