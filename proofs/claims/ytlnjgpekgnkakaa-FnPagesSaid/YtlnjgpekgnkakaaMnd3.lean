/- A page of one entry is mended: way 3. -/
import Derived.Test.YtlnjgpekgnkakaaPgMnd
import Derived.Test.YtlnjgpekgnkakaaRegH
namespace Go.Proofs.Ytlnjgpekgnkakaa
open Go Go.RowKit

set_option maxRecDepth 100000 in
set_option maxHeartbeats 8000000 in
theorem mended_3 (lo g0 n c0 k : Nat) (L : List PgD) (w : World) (hN : L.length = n) (h8 : n ≤ 8) (_hk : k < n) (hf : ∀ p ∈ L, full p) (hlen : ∀ p ∈ L, p.xs.length ≤ 4) (hne : ∀ p ∈ L, 0 < p.xs.length) (HO : OwnP w lo L) (HY : w.ownsRow lo 25 1 (.slice (some ⟨g0, 0, none⟩) n c0) n (PV L))
    (hc : k + 1 < n) (h2 : ∀ (h : k + 1 < L.length), ¬ 2 < L[k + 1].xs.length) (h3 : ∀ (h : k - 1 < L.length), 0 < k → ¬ 2 < L[k - 1].xs.length) :
    Calls Try.prog 17 #[.slice (some ⟨g0, 0, none⟩) n c0, .int .i64 k] w fun r w' => MendPost w lo (L.map PgD.con) k r w' := by
  have hO := Lib.hid HO
  have hY := Lib.hid HY
  have hlo : lo ≤ w.heap.size := by have := HY.lt g0 rfl; omega
  have lg0 := (HY.lt g0 rfl).1
  have lg1 := (HY.lt g0 rfl).2
  have kL : k < L.length := by omega
  have bL : k + 1 < L.length := by omega
  obtain ⟨i, hi⟩ : ∃ i, i = k + 1 := ⟨_, rfl⟩
  obtain ⟨a, ha, ma, da, va, ya, ca, nea⟩ := pgf HO HY hf (k := k) (kL)
  have oa := Lib.hid da.1
  have ta := con_at hf (k := k) (kL) ha
  have la := hlen _ ma
  have za := hne _ ma
  have ba := da.lt
  obtain ⟨b, hb, mb, db, vb, yb, cb, neb⟩ := pgf HO HY hf (k := k + 1) (bL)
  have ob := Lib.hid db.1
  have tb := con_at hf (k := k + 1) (bL) hb
  have lb := hlen _ mb
  have zb := hne _ mb
  have bb := db.lt
  have h2b : ¬ 2 < b.xs.length := by have := h2 (by omega); rw [hb] at this; exact this
  have hab : a.g ≠ b.g := by have := pg_apart HO (i := k) (j := k + 1) kL (by omega) (by omega); rw [ha, hb] at this; exact this
  have hq1 : (L.map PgD.con).length = n := by rw [List.length_map, hN]
  have hM : mendP (L.map PgD.con) k = ((L.map PgD.con).set k (a.xs ++ b.xs)).take i ++ ((L.map PgD.con).set k (a.xs ++ b.xs)).drop (i + 1) := by
    unfold mendP
    rw [if_neg (by rw [tb]; exact fun h => h2b h.2), if_neg (by
      rintro ⟨h, h'⟩
      obtain ⟨p, hp, mp, _, _, _, _, _⟩ := pgf HO HY hf (k := k - 1) (by omega)
      rw [con_at hf (k := k - 1) (by omega) hp] at h'
      have := h3 (by omega) h
      rw [hp] at this
      exact this h'), if_pos (by rw [hq1]; exact hc), ta, tb, hi]
  have HM := Lib.hid hM
  rw [← hi] at yb
  have q0 : (0 : Int) ≤ (k : Int) := by omega
  have q1 : (k : Int) < (n : Int) := by omega
  have wn : IntKind.i64.wrap ((n : Int) - 1) = (n : Int) - 1 := by rw [IntKind.wrap_i64]; omega
  have q2 : (0 : Int) ≤ (i : Int) := by omega
  have q3 : (i : Int) < (n : Int) := by omega
  have wi : IntKind.i64.wrap ((k : Int) + 1) = (i : Int) := by rw [IntKind.wrap_i64]; omega
  have wi2 : IntKind.i64.wrap ((k : Int) + 2) = (i : Int) + 1 := by rw [IntKind.wrap_i64]; omega
  have q4 : (k : Int) < (n : Int) - 1 := by omega
  have q5 : ¬ (((b.xs.length : Nat) : Int) > 2) := by omega
  have q6 : ¬ (2 < b.xs.length) := h2b
  have nki : k ≠ i := by omega
  have din : i < n := by omega
  clear hi h2b hM
  rcases Nat.eq_zero_or_pos k with k0 | k0
  · have q7 : ¬ ((k : Int) > 0) := by omega
    have q8 : ¬ (0 < k) := by omega
    have q9 : ¬ ((0 : Int) < (k : Int)) := by omega
    clear HO HY hlen hne hf h2 h3 k0
    go_enter Try.func17, Try.ntmps17
    go_wp2_with fail
    have yaA : w.drew.cell? _ = _ := ya
    have ybA : w.drew.cell? _ = _ := yb
    have HPA := Lib.hid (hO.out.bl (bel0 _).drew)
    have YA := Lib.hid (own_below (w := w) hY.out (bel0 _).drew (Nat.le_refl _))
    have oxA := Lib.hid (own_below (w := w) oa.out (bel0 _).drew (Nat.le_refl _))
    have rdA : Reads w.drew w.drew.heap.size 4 (some ⟨b.g, 0, none⟩) b.xs.length (ES b.xs) := Reads.of_own (own_below (w := w) ob.out (bel0 _).drew (Nat.le_refl _))
    have BA : Below lo w w.drew := (Below.refl lo w).drew
    have sA : w.drew.heap.size = w.heap.size := rfl
    refine wp_region_held_drew (S := fun w' => w'.cell? ⟨g0, i, none⟩ = some (.slice (some ⟨b.g, 0, none⟩) b.xs.length b.c)) (by kernel_rfl) yb (fun hHeld => ?_)
    refine wpAnyH_take (i := 0) (oi := ?oi1) (v := ?v1) ?hi1 ?hs1 ?hf1 ?hr1 ?hQ1 ?hy1 ?hS1 ?hrest1
    case hi1 => (conv => lhs; simp only [List.getElem?_toArray, List.getElem?_cons_zero]); try exact rfl
    case hs1 => kernel_rfl
    case hf1 => kernel_rfl
    case hr1 => kernel_rfl
    case hQ1 => exact fun _ _ _ h => h
    case hS1 => assumption
    case hy1 => refine Or.inl ⟨by rfl, ?_⟩; intro w hSw; (try dsimp only at hSw); go_simp; (try with_reducible rfl)
    simp only [Act.put, List.setIfInBounds_toArray, List.set_cons_zero, List.set_cons_succ]
    refine wpAnyH_take (i := 1) (oi := ?oi2) (v := ?v2) ?hi2 ?hs2 ?hf2 ?hr2 ?hQ2 ?hy2 ?hS2 ?hrest2
    case hi2 => (conv => lhs; simp only [List.getElem?_toArray, List.getElem?_cons_zero, List.getElem?_cons_succ]); try exact rfl
    case hs2 => kernel_rfl
    case hf2 => kernel_rfl
    case hr2 => kernel_rfl
    case hQ2 => exact fun _ _ _ h => h
    case hS2 => assumption
    case hy2 => refine Or.inl ⟨by rfl, ?_⟩; intro w hSw; (try dsimp only at hSw); go_simp; (try with_reducible rfl)
    simp only [Act.put, List.setIfInBounds_toArray, List.set_cons_zero, List.set_cons_succ]
    refine wpAnyH_take (i := 2) (oi := ?oi3) (v := ?v3) ?hi3 ?hs3 ?hf3 ?hr3 ?hQ3 ?hy3 ?hS3 ?hrest3
    case hi3 => (conv => lhs; simp only [List.getElem?_toArray, List.getElem?_cons_zero, List.getElem?_cons_succ]); try exact rfl
    case hs3 => kernel_rfl
    case hf3 => kernel_rfl
    case hr3 => kernel_rfl
    case hQ3 => exact fun _ _ _ h => h
    case hS3 => assumption
    case hy3 => refine Or.inl ⟨by rfl, ?_⟩; intro w hSw; (try dsimp only at hSw); go_simp; (try with_reducible rfl)
    simp only [Act.put, List.setIfInBounds_toArray, List.set_cons_zero, List.set_cons_succ]
    refine wpAnyH_take (i := 3) (oi := ?oi4) (v := ?v4) ?hi4 ?hs4 ?hf4 ?hr4 ?hQ4 ?hy4 ?hS4 ?hrest4
    case hi4 => (conv => lhs; simp only [List.getElem?_toArray, List.getElem?_cons_zero, List.getElem?_cons_succ]); try exact rfl
    case hs4 => kernel_rfl
    case hf4 => kernel_rfl
    case hr4 => kernel_rfl
    case hQ4 => exact fun _ _ _ h => h
    case hS4 => assumption
    case hy4 => refine Or.inl ⟨by rfl, ?_⟩; intro w hSw; (try dsimp only at hSw); go_simp; (try with_reducible rfl)
    simp only [Act.put, List.setIfInBounds_toArray, List.set_cons_zero, List.set_cons_succ]
    refine wpAnyH_take (i := 4) (oi := ?oi5) (v := ?v5) ?hi5 ?hs5 ?hf5 ?hr5 ?hQ5 ?hy5 ?hS5 ?hrest5
    case hi5 => (conv => lhs; simp only [List.getElem?_toArray, List.getElem?_cons_zero, List.getElem?_cons_succ]); try exact rfl
    case hs5 => kernel_rfl
    case hf5 => kernel_rfl
    case hr5 => kernel_rfl
    case hQ5 => exact fun _ _ _ h => h
    case hS5 => assumption
    case hy5 => refine Or.inl ⟨by rfl, ?_⟩; intro w hSw; (try dsimp only at hSw); go_simp; (try with_reducible rfl)
    simp only [Act.put, List.setIfInBounds_toArray, List.set_cons_zero, List.set_cons_succ]
    refine wpAnyH_take (i := 6) (oi := ?oi6) (v := ?v6) ?hi6 ?hs6 ?hf6 ?hr6 ?hQ6 ?hy6 ?hS6 ?hrest6
    case hi6 => (conv => lhs; simp only [List.getElem?_toArray, List.getElem?_cons_zero, List.getElem?_cons_succ]); try exact rfl
    case hs6 => kernel_rfl
    case hf6 => kernel_rfl
    case hr6 => kernel_rfl
    case hQ6 => exact fun _ _ _ h => h
    case hS6 => assumption
    case hy6 => refine Or.inl ⟨by rfl, ?_⟩; intro w hSw; (try dsimp only at hSw); go_simp; (try with_reducible rfl)
    simp only [Act.put, List.setIfInBounds_toArray, List.set_cons_zero, List.set_cons_succ]
    refine wpAnyH_take (i := 7) (oi := ?oi7) (v := ?v7) ?hi7 ?hs7 ?hf7 ?hr7 ?hQ7 ?hy7 ?hS7 ?hrest7
    case hi7 => (conv => lhs; simp only [List.getElem?_toArray, List.getElem?_cons_zero, List.getElem?_cons_succ]); try exact rfl
    case hs7 => kernel_rfl
    case hf7 => kernel_rfl
    case hr7 => kernel_rfl
    case hQ7 => exact fun _ _ _ h => h
    case hS7 => assumption
    case hy7 => refine Or.inl ⟨by rfl, ?_⟩; intro w hSw; (try dsimp only at hSw); go_simp; (try with_reducible rfl)
    simp only [Act.put, List.setIfInBounds_toArray, List.set_cons_zero, List.set_cons_succ]
    refine wpAnyH_take (i := 8) (oi := ?oi8) (v := ?v8) ?hi8 ?hs8 ?hf8 ?hr8 ?hQ8 ?hy8 ?hS8 ?hrest8
    case hi8 => (conv => lhs; simp only [List.getElem?_toArray, List.getElem?_cons_zero, List.getElem?_cons_succ]); try exact rfl
    case hs8 => kernel_rfl
    case hf8 => kernel_rfl
    case hr8 => kernel_rfl
    case hQ8 => exact fun _ _ _ h => h
    case hS8 => assumption
    case hy8 => refine Or.inl ⟨by rfl, ?_⟩; intro w hSw; (try dsimp only at hSw); go_simp; (try with_reducible rfl)
    simp only [Act.put, List.setIfInBounds_toArray, List.set_cons_zero, List.set_cons_succ]
    refine wpAnyH_take (i := 9) (oi := ?oi9) (v := ?v9) ?hi9 ?hs9 ?hf9 ?hr9 ?hQ9 ?hy9 ?hS9 ?hrest9
    case hi9 => (conv => lhs; simp only [List.getElem?_toArray, List.getElem?_cons_zero, List.getElem?_cons_succ]); try exact rfl
    case hs9 => kernel_rfl
    case hf9 => kernel_rfl
    case hr9 => kernel_rfl
    case hQ9 => exact fun _ _ _ h => h
    case hS9 => assumption
    case hy9 => refine Or.inl ⟨by rfl, ?_⟩; intro w hSw; (try dsimp only at hSw); go_simp; (try with_reducible rfl)
    simp only [Act.put, List.setIfInBounds_toArray, List.set_cons_zero, List.set_cons_succ]
    refine wpAnyH_take (i := 10) (oi := ?oi10) (v := ?v10) ?hi10 ?hs10 ?hf10 ?hr10 ?hQ10 ?hy10 ?hS10 ?hrest10
    case hi10 => (conv => lhs; simp only [List.getElem?_toArray, List.getElem?_cons_zero, List.getElem?_cons_succ]); try exact rfl
    case hs10 => kernel_rfl
    case hf10 => kernel_rfl
    case hr10 => kernel_rfl
    case hQ10 => exact fun _ _ _ h => h
    case hS10 => assumption
    case hy10 => refine Or.inl ⟨by rfl, ?_⟩; intro w hSw; (try dsimp only at hSw); go_simp; (try with_reducible rfl)
    simp only [Act.put, List.setIfInBounds_toArray, List.set_cons_zero, List.set_cons_succ]
    refine wpAnyH_ready (rs := [5]) (by kernel_rfl) (by simp) ?_
    refine AllReadyH.cons (o := ?oi11) ?hi11 (fun K hK => ?_) AllReadyH.nil
    case hi11 => (conv => lhs; simp only [List.getElem?_toArray, List.getElem?_cons_zero, List.getElem?_cons_succ]); try exact rfl
    go_simp
    refine hK.out _ _ hHeld (fun hHeld11 => ?_)
    clear hK K
    try simp only [Act.put, List.setIfInBounds_toArray, List.set_cons_zero, List.set_cons_succ]
    refine wpAnyH_ready (rs := [11]) (by kernel_rfl) (by simp) ?_
    refine AllReadyH.cons (o := ?oi12) ?hi12 (fun K hK => ?_) AllReadyH.nil
    case hi12 => (conv => lhs; simp only [List.getElem?_toArray, List.getElem?_cons_zero, List.getElem?_cons_succ]); try exact rfl
    refine step_app _ (by rfl) _ _ 25 (by rfl) Try.el_ent oxA.out (by rfl) rdA (by rfl) (ES_cells b.xs) (max_small (by omega)) (by omega) (by first | omega | (simp; done) | (simp; omega)) ?_
    intro v12 w12 own12 hG12 ho12 hB12
    obtain ⟨gq, cq, rfl⟩ := own_form1 own12 (by omega)
    have ys12 := hG12.cell ybA nea
    have Y12 := Lib.hid (YA.out.kept hG12 (.inr nea))
    have yx12 := hG12.cell yaA nea
    have f12 := own_frozen Y12.out k
    have nk : (⟨g0, k, none⟩ : Addr) ≠ ⟨g0, i, none⟩ := fun e => nki (by injection e)
    try simp only [Act.put, List.setIfInBounds_toArray, List.set_cons_zero, List.set_cons_succ]
    refine hK.out _ _ ys12 (fun hHeld12 => ?_)
    clear hK K
    try simp only [Act.put, List.setIfInBounds_toArray, List.set_cons_zero, List.set_cons_succ]
    refine wpAnyH_take (i := 12) (oi := ?oi13) (v := ?v13) ?hi13 ?hs13 ?hf13 ?hr13 ?hQ13 ?hy13 ?hS13 ?hrest13
    case hi13 => (conv => lhs; simp only [List.getElem?_toArray, List.getElem?_cons_zero, List.getElem?_cons_succ]); try exact rfl
    case hs13 => kernel_rfl
    case hf13 => kernel_rfl
    case hr13 => kernel_rfl
    case hQ13 => exact fun _ _ _ h => h
    case hS13 => assumption
    case hy13 => refine Or.inl ⟨by rfl, ?_⟩; intro w hSw; (try dsimp only at hSw); go_simp; (try with_reducible rfl)
    simp only [Act.put, List.setIfInBounds_toArray, List.set_cons_zero, List.set_cons_succ]
    refine wpAnyH_ready (rs := [13]) (by kernel_rfl) (by simp) ?_
    refine AllReadyH.cons (o := ?oi14) ?hi14 (fun K hK => ?_) AllReadyH.nil
    case hi14 => (conv => lhs; simp only [List.getElem?_toArray, List.getElem?_cons_zero, List.getElem?_cons_succ]); try exact rfl
    go_simp
    refine hK.out _ _ (cellS ys12 nk) (fun hHeld14 => ?_)
    clear hK K
    try simp only [Act.put, List.setIfInBounds_toArray, List.set_cons_zero, List.set_cons_succ]
    refine wpAnyH_done (by kernel_rfl) ?_ _
    obtain ⟨q, hq⟩ : ∃ q : PgD, q = ⟨gq, cq, a.xs ++ b.xs, a.xs.length + b.xs.length, cq⟩ := ⟨_, rfl⟩
    have hqv : q.val = .slice (some ⟨gq, 0, none⟩) (a.xs.length + b.xs.length) cq := by rw [hq]; rfl
    have hqd : OwnD w12 lo q := by
      rw [hq]
      refine ⟨?_, by simp⟩
      simp only [List.length_append, ES_append]
      exact own12
    have HP12 := Lib.hid (HPA.out.set kL (by rw [ha]; exact hG12) hqd (by
      rw [hq, ha]
      exact ho12.elim (fun h => .inl (by injection h)) (fun h => .inr (by injection h with h; have h2 : gq = w.heap.size := h.trans sA; simp only; rw [sA]; omega))))
    have HP13 := Lib.hid (HP12.out.app Y12.out (show w12.grownBy (w12.setCell ⟨g0, k, none⟩ (.slice (some ⟨gq, 0, none⟩) (a.xs.length + b.xs.length) cq)) (some g0) from only_sc (grown_refl _ _) k _))
    have y := own_set Y12.out k q.val
    rw [PV_set, hqv] at y
    have Y13 := Lib.hid y
    have B13 := Lib.hid ((BA.trans hB12).setCell (p := ⟨g0, k, none⟩) lg0 (.slice (some ⟨gq, 0, none⟩) (a.xs.length + b.xs.length) cq))
    have hql : q.con = a.xs ++ b.xs := by rw [hq]; exact List.take_of_length_le (by simp)
    clear y rdA BA HPA YA oxA Y12 HP12 hqd nk f12 ys12 yx12 own12 hG12 ho12 hB12 hq hqv
    generalize (w12.setCell ⟨g0, k, none⟩ (.slice (some ⟨gq, 0, none⟩) (a.xs.length + b.xs.length) cq)) = w13 at B13 HP13 Y13 ⊢
    have hsl : (L.set k q).length = n := by rw [List.length_set]; exact hN
    have l13 : lo ≤ w13.heap.size := by have := (Y13.out.lt g0 rfl).2; omega
    go_wp2_with fail
    refine (delP_any lo n i g0 c0 (L.set k q) w13 (by omega) din hsl l13 Y13.out).mono ?_
    rintro r w14 ⟨rfl, own14, hB14, hG14⟩
    have HP14 := Lib.hid ((HP13.out.app Y13.out hG14).sub (M := (L.set k q).take i ++ (L.set k q).drop (i + 1)) (by
      have h := (List.Sublist.refl ((L.set k q).take i)).append (show ((L.set k q).drop (i + 1)).Sublist ((L.set k q).drop i) by rw [← List.drop_drop]; exact List.drop_sublist _ _)
      rwa [List.take_append_drop] at h))
    have hml : ((L.set k q).take i ++ (L.set k q).drop (i + 1)).length = n - 1 := by rw [List.length_append, List.length_take, List.length_drop, hsl]; omega
    have hpg := HP14.out.pages (g := g0) (c := c0) (by rw [hml]; exact own14)
    rw [hml, List.map_append, List.map_take, List.map_drop, List.map_set, hql, ← HM.out] at hpg
    have HPG := Lib.hid hpg
    clear hpg own14
    go_wp2
    go_ret
    exact ⟨_, n - 1, c0, rfl, HPG.out, B13.out.trans hB14⟩
  · obtain ⟨p, hp, mp, _, _, yp, _, _⟩ := pgf HO HY hf (k := k - 1) (by omega)
    have h3p : ¬ 2 < p.xs.length := by have := h3 (by omega) k0; rw [hp] at this; exact this
    obtain ⟨j, hj⟩ : ∃ j, j = k - 1 := ⟨_, rfl⟩
    rw [← hj] at yp
    have q7 : (k : Int) > 0 := by omega
    have wj : IntKind.i64.wrap ((k : Int) - 1) = (j : Int) := by rw [IntKind.wrap_i64]; omega
    have q8 : (0 : Int) ≤ (j : Int) := by omega
    have q9 : (j : Int) < (n : Int) := by omega
    have qa : ¬ (((p.xs.length : Nat) : Int) > 2) := by omega
    have qb : 0 < k := k0
    clear HO HY hlen hne hf h2 h3 k0 hj hp
    go_enter Try.func17, Try.ntmps17
    go_wp2_with fail
    have yaA : w.drew.cell? _ = _ := ya
    have ybA : w.drew.cell? _ = _ := yb
    have HPA := Lib.hid (hO.out.bl (bel0 _).drew)
    have YA := Lib.hid (own_below (w := w) hY.out (bel0 _).drew (Nat.le_refl _))
    have oxA := Lib.hid (own_below (w := w) oa.out (bel0 _).drew (Nat.le_refl _))
    have rdA : Reads w.drew w.drew.heap.size 4 (some ⟨b.g, 0, none⟩) b.xs.length (ES b.xs) := Reads.of_own (own_below (w := w) ob.out (bel0 _).drew (Nat.le_refl _))
    have BA : Below lo w w.drew := (Below.refl lo w).drew
    have sA : w.drew.heap.size = w.heap.size := rfl
    refine wp_region_held_drew (S := fun w' => w'.cell? ⟨g0, i, none⟩ = some (.slice (some ⟨b.g, 0, none⟩) b.xs.length b.c)) (by kernel_rfl) yb (fun hHeld => ?_)
    refine wpAnyH_take (i := 0) (oi := ?oi201) (v := ?v201) ?hi201 ?hs201 ?hf201 ?hr201 ?hQ201 ?hy201 ?hS201 ?hrest201
    case hi201 => (conv => lhs; simp only [List.getElem?_toArray, List.getElem?_cons_zero]); try exact rfl
    case hs201 => kernel_rfl
    case hf201 => kernel_rfl
    case hr201 => kernel_rfl
    case hQ201 => exact fun _ _ _ h => h
    case hS201 => assumption
    case hy201 => refine Or.inl ⟨by rfl, ?_⟩; intro w hSw; (try dsimp only at hSw); go_simp; (try with_reducible rfl)
    simp only [Act.put, List.setIfInBounds_toArray, List.set_cons_zero, List.set_cons_succ]
    refine wpAnyH_take (i := 1) (oi := ?oi202) (v := ?v202) ?hi202 ?hs202 ?hf202 ?hr202 ?hQ202 ?hy202 ?hS202 ?hrest202
    case hi202 => (conv => lhs; simp only [List.getElem?_toArray, List.getElem?_cons_zero, List.getElem?_cons_succ]); try exact rfl
    case hs202 => kernel_rfl
    case hf202 => kernel_rfl
    case hr202 => kernel_rfl
    case hQ202 => exact fun _ _ _ h => h
    case hS202 => assumption
    case hy202 => refine Or.inl ⟨by rfl, ?_⟩; intro w hSw; (try dsimp only at hSw); go_simp; (try with_reducible rfl)
    simp only [Act.put, List.setIfInBounds_toArray, List.set_cons_zero, List.set_cons_succ]
    refine wpAnyH_take (i := 2) (oi := ?oi203) (v := ?v203) ?hi203 ?hs203 ?hf203 ?hr203 ?hQ203 ?hy203 ?hS203 ?hrest203
    case hi203 => (conv => lhs; simp only [List.getElem?_toArray, List.getElem?_cons_zero, List.getElem?_cons_succ]); try exact rfl
    case hs203 => kernel_rfl
    case hf203 => kernel_rfl
    case hr203 => kernel_rfl
    case hQ203 => exact fun _ _ _ h => h
    case hS203 => assumption
    case hy203 => refine Or.inl ⟨by rfl, ?_⟩; intro w hSw; (try dsimp only at hSw); go_simp; (try with_reducible rfl)
    simp only [Act.put, List.setIfInBounds_toArray, List.set_cons_zero, List.set_cons_succ]
    refine wpAnyH_take (i := 3) (oi := ?oi204) (v := ?v204) ?hi204 ?hs204 ?hf204 ?hr204 ?hQ204 ?hy204 ?hS204 ?hrest204
    case hi204 => (conv => lhs; simp only [List.getElem?_toArray, List.getElem?_cons_zero, List.getElem?_cons_succ]); try exact rfl
    case hs204 => kernel_rfl
    case hf204 => kernel_rfl
    case hr204 => kernel_rfl
    case hQ204 => exact fun _ _ _ h => h
    case hS204 => assumption
    case hy204 => refine Or.inl ⟨by rfl, ?_⟩; intro w hSw; (try dsimp only at hSw); go_simp; (try with_reducible rfl)
    simp only [Act.put, List.setIfInBounds_toArray, List.set_cons_zero, List.set_cons_succ]
    refine wpAnyH_take (i := 4) (oi := ?oi205) (v := ?v205) ?hi205 ?hs205 ?hf205 ?hr205 ?hQ205 ?hy205 ?hS205 ?hrest205
    case hi205 => (conv => lhs; simp only [List.getElem?_toArray, List.getElem?_cons_zero, List.getElem?_cons_succ]); try exact rfl
    case hs205 => kernel_rfl
    case hf205 => kernel_rfl
    case hr205 => kernel_rfl
    case hQ205 => exact fun _ _ _ h => h
    case hS205 => assumption
    case hy205 => refine Or.inl ⟨by rfl, ?_⟩; intro w hSw; (try dsimp only at hSw); go_simp; (try with_reducible rfl)
    simp only [Act.put, List.setIfInBounds_toArray, List.set_cons_zero, List.set_cons_succ]
    refine wpAnyH_take (i := 6) (oi := ?oi206) (v := ?v206) ?hi206 ?hs206 ?hf206 ?hr206 ?hQ206 ?hy206 ?hS206 ?hrest206
    case hi206 => (conv => lhs; simp only [List.getElem?_toArray, List.getElem?_cons_zero, List.getElem?_cons_succ]); try exact rfl
    case hs206 => kernel_rfl
    case hf206 => kernel_rfl
    case hr206 => kernel_rfl
    case hQ206 => exact fun _ _ _ h => h
    case hS206 => assumption
    case hy206 => refine Or.inl ⟨by rfl, ?_⟩; intro w hSw; (try dsimp only at hSw); go_simp; (try with_reducible rfl)
    simp only [Act.put, List.setIfInBounds_toArray, List.set_cons_zero, List.set_cons_succ]
    refine wpAnyH_take (i := 7) (oi := ?oi207) (v := ?v207) ?hi207 ?hs207 ?hf207 ?hr207 ?hQ207 ?hy207 ?hS207 ?hrest207
    case hi207 => (conv => lhs; simp only [List.getElem?_toArray, List.getElem?_cons_zero, List.getElem?_cons_succ]); try exact rfl
    case hs207 => kernel_rfl
    case hf207 => kernel_rfl
    case hr207 => kernel_rfl
    case hQ207 => exact fun _ _ _ h => h
    case hS207 => assumption
    case hy207 => refine Or.inl ⟨by rfl, ?_⟩; intro w hSw; (try dsimp only at hSw); go_simp; (try with_reducible rfl)
    simp only [Act.put, List.setIfInBounds_toArray, List.set_cons_zero, List.set_cons_succ]
    refine wpAnyH_take (i := 8) (oi := ?oi208) (v := ?v208) ?hi208 ?hs208 ?hf208 ?hr208 ?hQ208 ?hy208 ?hS208 ?hrest208
    case hi208 => (conv => lhs; simp only [List.getElem?_toArray, List.getElem?_cons_zero, List.getElem?_cons_succ]); try exact rfl
    case hs208 => kernel_rfl
    case hf208 => kernel_rfl
    case hr208 => kernel_rfl
    case hQ208 => exact fun _ _ _ h => h
    case hS208 => assumption
    case hy208 => refine Or.inl ⟨by rfl, ?_⟩; intro w hSw; (try dsimp only at hSw); go_simp; (try with_reducible rfl)
    simp only [Act.put, List.setIfInBounds_toArray, List.set_cons_zero, List.set_cons_succ]
    refine wpAnyH_take (i := 9) (oi := ?oi209) (v := ?v209) ?hi209 ?hs209 ?hf209 ?hr209 ?hQ209 ?hy209 ?hS209 ?hrest209
    case hi209 => (conv => lhs; simp only [List.getElem?_toArray, List.getElem?_cons_zero, List.getElem?_cons_succ]); try exact rfl
    case hs209 => kernel_rfl
    case hf209 => kernel_rfl
    case hr209 => kernel_rfl
    case hQ209 => exact fun _ _ _ h => h
    case hS209 => assumption
    case hy209 => refine Or.inl ⟨by rfl, ?_⟩; intro w hSw; (try dsimp only at hSw); go_simp; (try with_reducible rfl)
    simp only [Act.put, List.setIfInBounds_toArray, List.set_cons_zero, List.set_cons_succ]
    refine wpAnyH_take (i := 10) (oi := ?oi210) (v := ?v210) ?hi210 ?hs210 ?hf210 ?hr210 ?hQ210 ?hy210 ?hS210 ?hrest210
    case hi210 => (conv => lhs; simp only [List.getElem?_toArray, List.getElem?_cons_zero, List.getElem?_cons_succ]); try exact rfl
    case hs210 => kernel_rfl
    case hf210 => kernel_rfl
    case hr210 => kernel_rfl
    case hQ210 => exact fun _ _ _ h => h
    case hS210 => assumption
    case hy210 => refine Or.inl ⟨by rfl, ?_⟩; intro w hSw; (try dsimp only at hSw); go_simp; (try with_reducible rfl)
    simp only [Act.put, List.setIfInBounds_toArray, List.set_cons_zero, List.set_cons_succ]
    refine wpAnyH_ready (rs := [5]) (by kernel_rfl) (by simp) ?_
    refine AllReadyH.cons (o := ?oi211) ?hi211 (fun K hK => ?_) AllReadyH.nil
    case hi211 => (conv => lhs; simp only [List.getElem?_toArray, List.getElem?_cons_zero, List.getElem?_cons_succ]); try exact rfl
    go_simp
    refine hK.out _ _ hHeld (fun hHeld211 => ?_)
    clear hK K
    try simp only [Act.put, List.setIfInBounds_toArray, List.set_cons_zero, List.set_cons_succ]
    refine wpAnyH_ready (rs := [11]) (by kernel_rfl) (by simp) ?_
    refine AllReadyH.cons (o := ?oi212) ?hi212 (fun K hK => ?_) AllReadyH.nil
    case hi212 => (conv => lhs; simp only [List.getElem?_toArray, List.getElem?_cons_zero, List.getElem?_cons_succ]); try exact rfl
    refine step_app _ (by rfl) _ _ 25 (by rfl) Try.el_ent oxA.out (by rfl) rdA (by rfl) (ES_cells b.xs) (max_small (by omega)) (by omega) (by first | omega | (simp; done) | (simp; omega)) ?_
    intro v12 w12 own12 hG12 ho12 hB12
    obtain ⟨gq, cq, rfl⟩ := own_form1 own12 (by omega)
    have ys12 := hG12.cell ybA nea
    have Y12 := Lib.hid (YA.out.kept hG12 (.inr nea))
    have yx12 := hG12.cell yaA nea
    have f12 := own_frozen Y12.out k
    have nk : (⟨g0, k, none⟩ : Addr) ≠ ⟨g0, i, none⟩ := fun e => nki (by injection e)
    try simp only [Act.put, List.setIfInBounds_toArray, List.set_cons_zero, List.set_cons_succ]
    refine hK.out _ _ ys12 (fun hHeld212 => ?_)
    clear hK K
    try simp only [Act.put, List.setIfInBounds_toArray, List.set_cons_zero, List.set_cons_succ]
    refine wpAnyH_take (i := 12) (oi := ?oi213) (v := ?v213) ?hi213 ?hs213 ?hf213 ?hr213 ?hQ213 ?hy213 ?hS213 ?hrest213
    case hi213 => (conv => lhs; simp only [List.getElem?_toArray, List.getElem?_cons_zero, List.getElem?_cons_succ]); try exact rfl
    case hs213 => kernel_rfl
    case hf213 => kernel_rfl
    case hr213 => kernel_rfl
    case hQ213 => exact fun _ _ _ h => h
    case hS213 => assumption
    case hy213 => refine Or.inl ⟨by rfl, ?_⟩; intro w hSw; (try dsimp only at hSw); go_simp; (try with_reducible rfl)
    simp only [Act.put, List.setIfInBounds_toArray, List.set_cons_zero, List.set_cons_succ]
    refine wpAnyH_ready (rs := [13]) (by kernel_rfl) (by simp) ?_
    refine AllReadyH.cons (o := ?oi214) ?hi214 (fun K hK => ?_) AllReadyH.nil
    case hi214 => (conv => lhs; simp only [List.getElem?_toArray, List.getElem?_cons_zero, List.getElem?_cons_succ]); try exact rfl
    go_simp
    refine hK.out _ _ (cellS ys12 nk) (fun hHeld214 => ?_)
    clear hK K
    try simp only [Act.put, List.setIfInBounds_toArray, List.set_cons_zero, List.set_cons_succ]
    refine wpAnyH_done (by kernel_rfl) ?_ _
    obtain ⟨q, hq⟩ : ∃ q : PgD, q = ⟨gq, cq, a.xs ++ b.xs, a.xs.length + b.xs.length, cq⟩ := ⟨_, rfl⟩
    have hqv : q.val = .slice (some ⟨gq, 0, none⟩) (a.xs.length + b.xs.length) cq := by rw [hq]; rfl
    have hqd : OwnD w12 lo q := by
      rw [hq]
      refine ⟨?_, by simp⟩
      simp only [List.length_append, ES_append]
      exact own12
    have HP12 := Lib.hid (HPA.out.set kL (by rw [ha]; exact hG12) hqd (by
      rw [hq, ha]
      exact ho12.elim (fun h => .inl (by injection h)) (fun h => .inr (by injection h with h; have h2 : gq = w.heap.size := h.trans sA; simp only; rw [sA]; omega))))
    have HP13 := Lib.hid (HP12.out.app Y12.out (show w12.grownBy (w12.setCell ⟨g0, k, none⟩ (.slice (some ⟨gq, 0, none⟩) (a.xs.length + b.xs.length) cq)) (some g0) from only_sc (grown_refl _ _) k _))
    have y := own_set Y12.out k q.val
    rw [PV_set, hqv] at y
    have Y13 := Lib.hid y
    have B13 := Lib.hid ((BA.trans hB12).setCell (p := ⟨g0, k, none⟩) lg0 (.slice (some ⟨gq, 0, none⟩) (a.xs.length + b.xs.length) cq))
    have hql : q.con = a.xs ++ b.xs := by rw [hq]; exact List.take_of_length_le (by simp)
    clear y rdA BA HPA YA oxA Y12 HP12 hqd nk f12 ys12 yx12 own12 hG12 ho12 hB12 hq hqv
    generalize (w12.setCell ⟨g0, k, none⟩ (.slice (some ⟨gq, 0, none⟩) (a.xs.length + b.xs.length) cq)) = w13 at B13 HP13 Y13 ⊢
    have hsl : (L.set k q).length = n := by rw [List.length_set]; exact hN
    have l13 : lo ≤ w13.heap.size := by have := (Y13.out.lt g0 rfl).2; omega
    go_wp2_with fail
    refine (delP_any lo n i g0 c0 (L.set k q) w13 (by omega) din hsl l13 Y13.out).mono ?_
    rintro r w14 ⟨rfl, own14, hB14, hG14⟩
    have HP14 := Lib.hid ((HP13.out.app Y13.out hG14).sub (M := (L.set k q).take i ++ (L.set k q).drop (i + 1)) (by
      have h := (List.Sublist.refl ((L.set k q).take i)).append (show ((L.set k q).drop (i + 1)).Sublist ((L.set k q).drop i) by rw [← List.drop_drop]; exact List.drop_sublist _ _)
      rwa [List.take_append_drop] at h))
    have hml : ((L.set k q).take i ++ (L.set k q).drop (i + 1)).length = n - 1 := by rw [List.length_append, List.length_take, List.length_drop, hsl]; omega
    have hpg := HP14.out.pages (g := g0) (c := c0) (by rw [hml]; exact own14)
    rw [hml, List.map_append, List.map_take, List.map_drop, List.map_set, hql, ← HM.out] at hpg
    have HPG := Lib.hid hpg
    clear hpg own14
    go_wp2
    go_ret
    exact ⟨_, n - 1, c0, rfl, HPG.out, B13.out.trans hB14⟩

end Go.Proofs.Ytlnjgpekgnkakaa
