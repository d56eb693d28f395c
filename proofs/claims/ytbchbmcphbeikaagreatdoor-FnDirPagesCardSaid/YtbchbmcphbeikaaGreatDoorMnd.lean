/- Pages mended: the four ways, and all of them. -/
import Derived.Test.YtbchbmcphbeikaaGreatDoorPgMnd
import Derived.Test.YtbchbmcphbeikaaGreatDoorRegH
namespace Go.Proofs.YtbchbmcphbeikaaGreatDoor
open Go Go.RowKit

set_option maxRecDepth 100000 in
set_option maxHeartbeats 8000000 in
theorem mended_1 (lo g0 n c0 k : Nat) (L : List PgD) (w : World) (hN : L.length = n) (h8 : n ≤ 8) (_hk : k < n) (hf : ∀ p ∈ L, full p) (hlen : ∀ p ∈ L, p.xs.length ≤ 4) (hne : ∀ p ∈ L, 0 < p.xs.length) (HO : OwnP w lo L) (HY : w.ownsRow lo 30 1 (.slice (some ⟨g0, 0, none⟩) n c0) n (PV L))
    (hc : k + 1 < n) (h2 : ∀ (h : k + 1 < L.length), 2 < L[k + 1].xs.length) :
    Calls Tryz.prog 68 #[.slice (some ⟨g0, 0, none⟩) n c0, .int .i64 k] w fun r w' => MendPost w lo (L.map PgD.con) k r w' := by
  have hO := Lib.hid HO
  have hY := Lib.hid HY
  have hlo : lo ≤ w.heap.size := by have := HY.lt g0 rfl; omega
  have lg0 := (HY.lt g0 rfl).1
  have lg1 := (HY.lt g0 rfl).2
  have kL : k < L.length := by omega
  obtain ⟨a, ha, ma, da, va, ya, ca, nea⟩ := pgf HO HY hf (k := k) (kL)
  have oa := Lib.hid da.1
  have ta := con_at hf (k := k) (kL) ha
  have la := hlen _ ma
  have za := hne _ ma
  have ba := da.lt
  obtain ⟨b, hb, mb, db, vb, yb, cb, neb⟩ := pgf HO HY hf (k := k + 1) (by omega)
  have ob := Lib.hid db.1
  have tb := con_at hf (k := k + 1) (by omega) hb
  have lb := hlen _ mb
  have zb := hne _ mb
  have bb := db.lt
  have h2b : 2 < b.xs.length := by have := h2 (by omega); rw [hb] at this; exact this
  have hab : a.g ≠ b.g := by have := pg_apart HO (i := k) (j := k + 1) kL (by omega) (by omega); rw [ha, hb] at this; exact this
  have hq1 : (L.map PgD.con).length = n := by rw [List.length_map, hN]
  have hM : mendP (L.map PgD.con) k = ((L.map PgD.con).set k (a.xs ++ b.xs.take 1)).set (k + 1) (b.xs.drop 1) := by unfold mendP; rw [if_pos ⟨by rw [hq1]; exact hc, by rw [tb]; exact h2b⟩, ta, tb]
  have HM := Lib.hid hM
  obtain ⟨hk0, bb, oo, hbo, _, z0, z1, z2, z3⟩ := reads_ent (Reads.of_own ob.out) (show 0 < b.xs.length by omega)
  simp only [Option.some.injEq, Addr.mk.injEq, and_true] at hbo
  obtain ⟨rfl, rfl⟩ := hbo
  simp only [Nat.zero_mul, Nat.add_zero, Nat.zero_add] at z0 z1 z2 z3
  obtain ⟨e, he⟩ : ∃ e, b.xs[0] = e := ⟨_, rfl⟩
  rw [he] at z0 z1 z2 z3
  have q0 : (0 : Int) ≤ (k : Int) := by omega
  have q1 : (k : Int) < (n : Int) := by omega
  have q2 : (0 : Int) ≤ (k : Int) + 1 := by omega
  have q3 : (k : Int) + 1 < (n : Int) := by omega
  have wn : IntKind.i64.wrap ((n : Int) - 1) = (n : Int) - 1 := by rw [IntKind.wrap_i64]; omega
  have wk : IntKind.i64.wrap ((k : Int) + 1) = (k : Int) + 1 := by rw [IntKind.wrap_i64]; omega
  have tk : ((k : Int) + 1).toNat = k + 1 := by omega
  have q4 : (k : Int) < (n : Int) - 1 := by omega
  have q5 : ((b.xs.length : Nat) : Int) > 2 := by omega
  have q6 : ((b.xs.length : Nat) : Int) > 0 := by omega
  have z_b : 0 < b.xs.length := hk0
  clear HO HY hlen hne hf h2 hM
  go_enter Tryz.func68, Tryz.ntmps68
  go_wp2_with fail
  have yaA := cellA (o := (.cells #[.int .i64 e.h, .int .i64 e.i, .string e.s, .int .i64 e.d] 40)) ya
  have ybA := cellA (o := (.cells #[.int .i64 e.h, .int .i64 e.i, .string e.s, .int .i64 e.d] 40)) yb
  have z0A := cellA (o := (.cells #[.int .i64 e.h, .int .i64 e.i, .string e.s, .int .i64 e.d] 40)) z0
  have z1A := cellA (o := (.cells #[.int .i64 e.h, .int .i64 e.i, .string e.s, .int .i64 e.d] 40)) z1
  have z2A := cellA (o := (.cells #[.int .i64 e.h, .int .i64 e.i, .string e.s, .int .i64 e.d] 40)) z2
  have z3A := cellA (o := (.cells #[.int .i64 e.h, .int .i64 e.i, .string e.s, .int .i64 e.d] 40)) z3
  have yaB : (w.alloc (.cells #[.int .i64 e.h, .int .i64 e.i, .string e.s, .int .i64 e.d] 40)).cell? ⟨g0, k, none⟩ = some (.slice (some ⟨a.g, 0, none⟩) a.xs.length a.c) := yaA
  have HPA := Lib.hid (hO.out.bl (belA (bel0 _).drew (.cells #[.int .i64 e.h, .int .i64 e.i, .string e.s, .int .i64 e.d] 40)))
  have YA := Lib.hid (own_below (w := w) hY.out (belA (bel0 _).drew (.cells #[.int .i64 e.h, .int .i64 e.i, .string e.s, .int .i64 e.d] 40)) (Nat.le_refl _))
  have oaA := Lib.hid (own_below (w := w) oa.out (belA (bel0 _).drew (.cells #[.int .i64 e.h, .int .i64 e.i, .string e.s, .int .i64 e.d] 40)) (Nat.le_refl _))
  have rdA : Reads (w.drew.alloc (.cells #[.int .i64 e.h, .int .i64 e.i, .string e.s, .int .i64 e.d] 40)) (w.heap.size + 1) 4 (some ⟨w.heap.size, 0, none⟩) 1 (ES [e]) := reads_new w.drew _ _ 4 1 (by rfl)
  have BA : Below lo w (w.drew.alloc (.cells #[.int .i64 e.h, .int .i64 e.i, .string e.s, .int .i64 e.d] 40)) := (Below.refl lo w).drew.alloc hlo (.cells #[.int .i64 e.h, .int .i64 e.i, .string e.s, .int .i64 e.d] 40)
  have sA : (w.drew.alloc (.cells #[.int .i64 e.h, .int .i64 e.i, .string e.s, .int .i64 e.d] 40)).heap.size = w.heap.size + 1 := World.size_alloc w.drew _
  have neab : (some b.g : Option Nat) ≠ some a.g := fun e => hab (by injection e with e; exact e.symm)
  refine wp_region_held_drew (S := fun w' => w'.cell? ⟨g0, k + 1, none⟩ = some (.slice (some ⟨b.g, 0, none⟩) b.xs.length b.c) ∧ w'.cell? ⟨b.g, 0, none⟩ = some (.int .i64 e.h) ∧ w'.cell? ⟨b.g, 1, none⟩ = some (.int .i64 e.i) ∧ w'.cell? ⟨b.g, 2, none⟩ = some (.string e.s) ∧ w'.cell? ⟨b.g, 3, none⟩ = some (.int .i64 e.d)) (by kernel_rfl) ⟨yb, z0, z1, z2, z3⟩ (fun hHeld => ?_)
  refine wpAnyH_take (i := 0) (oi := ?oi1) (v := ?v1) ?hi1 ?hs1 ?hf1 ?hr1 ?hQ1 ?hy1 ?hS1 ?hrest1
  case hi1 => (conv => lhs; simp only [List.getElem?_toArray, List.getElem?_cons_zero]); try exact rfl
  case hs1 => kernel_rfl
  case hf1 => kernel_rfl
  case hr1 => kernel_rfl
  case hQ1 => exact fun _ _ _ h => h
  case hS1 => assumption
  case hy1 => refine Or.inl ⟨by rfl, ?_⟩; intro w hSw; (try dsimp only at hSw); go_simp; (try with_reducible rfl)
  simp only [Act.put, List.setIfInBounds_toArray, List.set_cons_zero, List.set_cons_succ]
  refine wpAnyH_take (i := 1) (oi := ?oi2) (v := ?v2) ?hi2 ?hs2 ?hf2 ?hr2 ?hQ2 ?hy2 ?hS2 ?hrest2
  case hi2 => (conv => lhs; simp only [List.getElem?_toArray, List.getElem?_cons_zero, List.getElem?_cons_succ]); try exact rfl
  case hs2 => kernel_rfl
  case hf2 => kernel_rfl
  case hr2 => kernel_rfl
  case hQ2 => exact fun _ _ _ h => h
  case hS2 => assumption
  case hy2 => refine Or.inl ⟨by rfl, ?_⟩; intro w hSw; (try dsimp only at hSw); go_simp; (try with_reducible rfl)
  simp only [Act.put, List.setIfInBounds_toArray, List.set_cons_zero, List.set_cons_succ]
  refine wpAnyH_take (i := 2) (oi := ?oi3) (v := ?v3) ?hi3 ?hs3 ?hf3 ?hr3 ?hQ3 ?hy3 ?hS3 ?hrest3
  case hi3 => (conv => lhs; simp only [List.getElem?_toArray, List.getElem?_cons_zero, List.getElem?_cons_succ]); try exact rfl
  case hs3 => kernel_rfl
  case hf3 => kernel_rfl
  case hr3 => kernel_rfl
  case hQ3 => exact fun _ _ _ h => h
  case hS3 => assumption
  case hy3 => refine Or.inl ⟨by rfl, ?_⟩; intro w hSw; (try dsimp only at hSw); go_simp; (try with_reducible rfl)
  simp only [Act.put, List.setIfInBounds_toArray, List.set_cons_zero, List.set_cons_succ]
  refine wpAnyH_take (i := 3) (oi := ?oi4) (v := ?v4) ?hi4 ?hs4 ?hf4 ?hr4 ?hQ4 ?hy4 ?hS4 ?hrest4
  case hi4 => (conv => lhs; simp only [List.getElem?_toArray, List.getElem?_cons_zero, List.getElem?_cons_succ]); try exact rfl
  case hs4 => kernel_rfl
  case hf4 => kernel_rfl
  case hr4 => kernel_rfl
  case hQ4 => exact fun _ _ _ h => h
  case hS4 => assumption
  case hy4 => refine Or.inl ⟨by rfl, ?_⟩; intro w hSw; (try dsimp only at hSw); go_simp; (try with_reducible rfl)
  simp only [Act.put, List.setIfInBounds_toArray, List.set_cons_zero, List.set_cons_succ]
  refine wpAnyH_take (i := 4) (oi := ?oi5) (v := ?v5) ?hi5 ?hs5 ?hf5 ?hr5 ?hQ5 ?hy5 ?hS5 ?hrest5
  case hi5 => (conv => lhs; simp only [List.getElem?_toArray, List.getElem?_cons_zero, List.getElem?_cons_succ]); try exact rfl
  case hs5 => kernel_rfl
  case hf5 => kernel_rfl
  case hr5 => kernel_rfl
  case hQ5 => exact fun _ _ _ h => h
  case hS5 => assumption
  case hy5 => refine Or.inl ⟨by rfl, ?_⟩; intro w hSw; (try dsimp only at hSw); go_simp; (try with_reducible rfl)
  simp only [Act.put, List.setIfInBounds_toArray, List.set_cons_zero, List.set_cons_succ]
  refine wpAnyH_take (i := 6) (oi := ?oi6) (v := ?v6) ?hi6 ?hs6 ?hf6 ?hr6 ?hQ6 ?hy6 ?hS6 ?hrest6
  case hi6 => (conv => lhs; simp only [List.getElem?_toArray, List.getElem?_cons_zero, List.getElem?_cons_succ]); try exact rfl
  case hs6 => kernel_rfl
  case hf6 => kernel_rfl
  case hr6 => kernel_rfl
  case hQ6 => exact fun _ _ _ h => h
  case hS6 => assumption
  case hy6 => refine Or.inl ⟨by rfl, ?_⟩; intro w hSw; (try dsimp only at hSw); go_simp; (try with_reducible rfl)
  simp only [Act.put, List.setIfInBounds_toArray, List.set_cons_zero, List.set_cons_succ]
  refine wpAnyH_take (i := 7) (oi := ?oi7) (v := ?v7) ?hi7 ?hs7 ?hf7 ?hr7 ?hQ7 ?hy7 ?hS7 ?hrest7
  case hi7 => (conv => lhs; simp only [List.getElem?_toArray, List.getElem?_cons_zero, List.getElem?_cons_succ]); try exact rfl
  case hs7 => kernel_rfl
  case hf7 => kernel_rfl
  case hr7 => kernel_rfl
  case hQ7 => exact fun _ _ _ h => h
  case hS7 => assumption
  case hy7 => refine Or.inl ⟨by rfl, ?_⟩; intro w hSw; (try dsimp only at hSw); go_simp; (try with_reducible rfl)
  simp only [Act.put, List.setIfInBounds_toArray, List.set_cons_zero, List.set_cons_succ]
  refine wpAnyH_take (i := 8) (oi := ?oi8) (v := ?v8) ?hi8 ?hs8 ?hf8 ?hr8 ?hQ8 ?hy8 ?hS8 ?hrest8
  case hi8 => (conv => lhs; simp only [List.getElem?_toArray, List.getElem?_cons_zero, List.getElem?_cons_succ]); try exact rfl
  case hs8 => kernel_rfl
  case hf8 => kernel_rfl
  case hr8 => kernel_rfl
  case hQ8 => exact fun _ _ _ h => h
  case hS8 => assumption
  case hy8 => refine Or.inl ⟨by rfl, ?_⟩; intro w hSw; (try dsimp only at hSw); go_simp; (try with_reducible rfl)
  simp only [Act.put, List.setIfInBounds_toArray, List.set_cons_zero, List.set_cons_succ]
  refine wpAnyH_take (i := 9) (oi := ?oi9) (v := ?v9) ?hi9 ?hs9 ?hf9 ?hr9 ?hQ9 ?hy9 ?hS9 ?hrest9
  case hi9 => (conv => lhs; simp only [List.getElem?_toArray, List.getElem?_cons_zero, List.getElem?_cons_succ]); try exact rfl
  case hs9 => kernel_rfl
  case hf9 => kernel_rfl
  case hr9 => kernel_rfl
  case hQ9 => exact fun _ _ _ h => h
  case hS9 => assumption
  case hy9 => refine Or.inl ⟨by rfl, ?_⟩; intro w hSw; (try dsimp only at hSw); go_simp; (try with_reducible rfl)
  simp only [Act.put, List.setIfInBounds_toArray, List.set_cons_zero, List.set_cons_succ]
  refine wpAnyH_take (i := 10) (oi := ?oi10) (v := ?v10) ?hi10 ?hs10 ?hf10 ?hr10 ?hQ10 ?hy10 ?hS10 ?hrest10
  case hi10 => (conv => lhs; simp only [List.getElem?_toArray, List.getElem?_cons_zero, List.getElem?_cons_succ]); try exact rfl
  case hs10 => kernel_rfl
  case hf10 => kernel_rfl
  case hr10 => kernel_rfl
  case hQ10 => exact fun _ _ _ h => h
  case hS10 => assumption
  case hy10 => refine Or.inl ⟨by rfl, ?_⟩; intro w hSw; (try dsimp only at hSw); go_simp; (try with_reducible rfl)
  simp only [Act.put, List.setIfInBounds_toArray, List.set_cons_zero, List.set_cons_succ]
  refine wpAnyH_take (i := 11) (oi := ?oi11) (v := ?v11) ?hi11 ?hs11 ?hf11 ?hr11 ?hQ11 ?hy11 ?hS11 ?hrest11
  case hi11 => (conv => lhs; simp only [List.getElem?_toArray, List.getElem?_cons_zero, List.getElem?_cons_succ]); try exact rfl
  case hs11 => kernel_rfl
  case hf11 => kernel_rfl
  case hr11 => kernel_rfl
  case hQ11 => exact fun _ _ _ h => h
  case hS11 => assumption
  case hy11 => refine Or.inl ⟨by rfl, ?_⟩; intro w hSw; (try dsimp only at hSw); go_simp; (try with_reducible rfl)
  simp only [Act.put, List.setIfInBounds_toArray, List.set_cons_zero, List.set_cons_succ]
  refine wpAnyH_take (i := 12) (oi := ?oi12) (v := ?v12) ?hi12 ?hs12 ?hf12 ?hr12 ?hQ12 ?hy12 ?hS12 ?hrest12
  case hi12 => (conv => lhs; simp only [List.getElem?_toArray, List.getElem?_cons_zero, List.getElem?_cons_succ]); try exact rfl
  case hs12 => kernel_rfl
  case hf12 => kernel_rfl
  case hr12 => kernel_rfl
  case hQ12 => exact fun _ _ _ h => h
  case hS12 => assumption
  case hy12 => refine Or.inl ⟨by rfl, ?_⟩; intro w hSw; (try dsimp only at hSw); go_simp; (try with_reducible rfl)
  simp only [Act.put, List.setIfInBounds_toArray, List.set_cons_zero, List.set_cons_succ]
  refine wpAnyH_ready (rs := [5, 13]) (by kernel_rfl) (by simp) ?_
  refine AllReadyH.cons (o := ?oi13) ?hi13 (fun K hK => ?_) (AllReadyH.cons (o := ?oi14) ?hi14 (fun K hK => ?_) AllReadyH.nil)
  case hi13 => (conv => lhs; simp only [List.getElem?_toArray, List.getElem?_cons_zero, List.getElem?_cons_succ]); try exact rfl
  case hi14 => (conv => lhs; simp only [List.getElem?_toArray, List.getElem?_cons_zero, List.getElem?_cons_succ]); try exact rfl
  · go_simp
    refine hK.out _ _ hHeld (fun hHeld => ?_)
    clear hK K
    try simp only [Act.put, List.setIfInBounds_toArray, List.set_cons_zero, List.set_cons_succ]
    refine wpAnyH_ready (rs := [13]) (by kernel_rfl) (by simp) ?_
    refine AllReadyH.cons (o := ?oi15) ?hi15 (fun K hK => ?_) AllReadyH.nil
    case hi15 => (conv => lhs; simp only [List.getElem?_toArray, List.getElem?_cons_zero, List.getElem?_cons_succ]); try exact rfl
    go_simp
    refine hK.out _ _ ⟨ybA, z0A, z1A, z2A, z3A⟩ (fun hHeld15 => ?_)
    clear hK K
    try simp only [Act.put, List.setIfInBounds_toArray, List.set_cons_zero, List.set_cons_succ]
    refine wpAnyH_ready (rs := [14]) (by kernel_rfl) (by simp) ?_
    refine AllReadyH.cons (o := ?oi16) ?hi16 (fun K hK => ?_) AllReadyH.nil
    case hi16 => (conv => lhs; simp only [List.getElem?_toArray, List.getElem?_cons_zero, List.getElem?_cons_succ]); try exact rfl
    refine step_app _ (by rfl) _ _ 30 (by rfl) Tryz.el_ent oaA.out (by rfl) rdA (by rfl) (ES_cells [e]) (max_small (by omega)) (by omega) (by first | omega | (simp; done) | (simp; omega)) ?_
    intro v12 w12 own12 hG12 ho12 hB12
    obtain ⟨gq, cq, rfl⟩ := own_form1 own12 (by omega)
    have yb12 := hG12.cell ybA nea
    have z012 := hG12.cell z0A neab
    have z112 := hG12.cell z1A neab
    have z212 := hG12.cell z2A neab
    have z312 := hG12.cell z3A neab
    have Y12 := Lib.hid (YA.out.kept hG12 (.inr nea))
    have ya12 := hG12.cell yaA nea
    have f12 := own_frozen Y12.out k
    have nk : (⟨g0, k, none⟩ : Addr) ≠ ⟨g0, k + 1, none⟩ := fun e => by simp at e
    have nb0 : (⟨g0, k, none⟩ : Addr) ≠ ⟨b.g, 0, none⟩ := fun e => neb (by simp at e; rw [e.1])
    have nb1 : (⟨g0, k, none⟩ : Addr) ≠ ⟨b.g, 1, none⟩ := fun e => neb (by simp at e; rw [e.1])
    have nb2 : (⟨g0, k, none⟩ : Addr) ≠ ⟨b.g, 2, none⟩ := fun e => neb (by simp at e; rw [e.1])
    have nb3 : (⟨g0, k, none⟩ : Addr) ≠ ⟨b.g, 3, none⟩ := fun e => neb (by simp at e; rw [e.1])
    try simp only [Act.put, List.setIfInBounds_toArray, List.set_cons_zero, List.set_cons_succ]
    refine hK.out _ _ ⟨yb12, z012, z112, z212, z312⟩ (fun hHeld16 => ?_)
    clear hK K
    try simp only [Act.put, List.setIfInBounds_toArray, List.set_cons_zero, List.set_cons_succ]
    refine wpAnyH_take (i := 15) (oi := ?oi17) (v := ?v17) ?hi17 ?hs17 ?hf17 ?hr17 ?hQ17 ?hy17 ?hS17 ?hrest17
    case hi17 => (conv => lhs; simp only [List.getElem?_toArray, List.getElem?_cons_zero, List.getElem?_cons_succ]); try exact rfl
    case hs17 => kernel_rfl
    case hf17 => kernel_rfl
    case hr17 => kernel_rfl
    case hQ17 => exact fun _ _ _ h => h
    case hS17 => assumption
    case hy17 => refine Or.inl ⟨by rfl, ?_⟩; intro w hSw; (try dsimp only at hSw); go_simp; (try with_reducible rfl)
    simp only [Act.put, List.setIfInBounds_toArray, List.set_cons_zero, List.set_cons_succ]
    refine wpAnyH_ready (rs := [16]) (by kernel_rfl) (by simp) ?_
    refine AllReadyH.cons (o := ?oi18) ?hi18 (fun K hK => ?_) AllReadyH.nil
    case hi18 => (conv => lhs; simp only [List.getElem?_toArray, List.getElem?_cons_zero, List.getElem?_cons_succ]); try exact rfl
    go_simp
    refine hK.out _ _ ⟨cellS yb12 nk, cellS z012 nb0, cellS z112 nb1, cellS z212 nb2, cellS z312 nb3⟩ (fun hHeld18 => ?_)
    clear hK K
    try simp only [Act.put, List.setIfInBounds_toArray, List.set_cons_zero, List.set_cons_succ]
    refine wpAnyH_done (by kernel_rfl) ?_ _
    obtain ⟨q, hq⟩ : ∃ q : PgD, q = ⟨gq, cq, a.xs ++ [e], a.xs.length + 1, cq⟩ := ⟨_, rfl⟩
    have hqv : q.val = .slice (some ⟨gq, 0, none⟩) (a.xs.length + 1) cq := by rw [hq]; rfl
    have hqd : OwnD w12 lo q := by
      rw [hq]
      refine ⟨?_, by simp⟩
      simp only [List.length_append, List.length_cons, List.length_nil, ES_append]
      exact own12
    have HP12 := Lib.hid (HPA.out.set kL (by rw [ha]; exact hG12) hqd (by
      rw [hq, ha, sA]
      exact ho12.elim (fun h => .inl (by injection h)) (fun h => .inr (by injection h with h; have h2 : gq = w.heap.size + 1 := h.trans sA; simp only; omega))))
    have HP13 := Lib.hid (HP12.out.app Y12.out (show w12.grownBy (w12.setCell ⟨g0, k, none⟩ (.slice (some ⟨gq, 0, none⟩) (a.xs.length + 1) cq)) (some g0) from only_sc (grown_refl _ _) k _))
    have y := own_set Y12.out k q.val
    rw [PV_set, hqv] at y
    have Y13 := Lib.hid y
    have B13 := Lib.hid ((BA.trans hB12).setCell (p := ⟨g0, k, none⟩) lg0 (.slice (some ⟨gq, 0, none⟩) (a.xs.length + 1) cq))
    clear y ya yb z0 z1 z2 z3 yaA ybA z0A z1A z2A z3A yaB yb12 z012 z112 z212 z312 ya12 f12 own12 hG12 ho12 hB12 rdA BA HPA YA oaA Y12 HP12 hqd nk nb0 nb1 nb2 nb3
    generalize (w12.setCell ⟨g0, k, none⟩ (.slice (some ⟨gq, 0, none⟩) (a.xs.length + 1) cq)) = w13 at B13 HP13 Y13 ⊢
    have kb : k + 1 < (L.set k q).length := by rw [List.length_set]; omega
    have hbb : (L.set k q)[k + 1] = b := by rw [List.getElem_set_ne (by omega)]; exact hb
    have hbm : b ∈ L.set k q := by rw [← hbb]; exact List.getElem_mem _
    have hdb := HP13.out.1 b hbm
    have hsub := hdb.sub 1
    have hbc : b.xs.length ≤ b.c := by obtain ⟨_, _, _, h, _⟩ := own_some hdb.1; exact h
    have y13 := Y13.out.cellAt (k + 1) (by omega)
    rw [PV_get _ (k + 1) kb, hbb, vb] at y13
    have c1 : ¬ (b.c = 1) := by omega
    have c2 : (1 : Int) ≤ ((b.xs.length : Nat) : Int) := by omega
    have c3 : 1 ≤ b.xs.length := by omega
    have Hq := Lib.hid hq
    have hql : q.con = a.xs ++ b.xs.take 1 := by
      rw [hq]
      have : b.xs.take 1 = [e] := by
        rw [List.take_succ_eq_append_getElem z_b, List.take_zero, he]; rfl
      rw [this]
      exact List.take_of_length_le (by simp)
    clear hq hqv
    go_wp2_with fail
    refine (copyEnts_impl (some ⟨b.g, 4, none⟩) (b.xs.length - 1) (b.c - 1) (b.xs.drop 1) (by omega) w13 hsub).mono ?_
    rintro r w14 ⟨v14, rfl, own14, hb14⟩
    obtain ⟨gr, cr, rfl⟩ := own_form1 own14 (by omega)
    have l13 : lo ≤ w13.heap.size := by have := (Y13.out.lt g0 rfl).2; omega
    obtain ⟨rp, hrp⟩ : ∃ q : PgD, q = ⟨gr, cr, b.xs.drop 1, b.xs.length - 1, cr⟩ := ⟨_, rfl⟩
    have hrv : rp.val = .slice (some ⟨gr, 0, none⟩) (b.xs.length - 1) cr := by rw [hrp]; rfl
    have hrd : OwnD w14 lo rp := by
      rw [hrp]
      refine ⟨?_, by simp⟩
      simp only [List.length_drop]
      exact own_more own14 l13
    have HP14 := Lib.hid (HP13.out.set kb (gb_new hb14) hrd (.inr (by rw [hrp]; exact (own_some own14).1)))
    have Y14 := Lib.hid (own_below Y13.out hb14 (Nat.le_refl _))
    obtain ⟨u14, y14⟩ := own_cell1 Y14.out (k + 1) (by omega)
    have f14 := own_frozen Y14.out (k + 1)
    have HP15 := Lib.hid (HP14.out.app Y14.out (show w14.grownBy (w14.setCell ⟨g0, k + 1, none⟩ (.slice (some ⟨gr, 0, none⟩) (b.xs.length - 1) cr)) (some g0) from only_sc (grown_refl _ _) (k + 1) _))
    have y := own_set Y14.out (k + 1) rp.val
    rw [PV_set, hrv] at y
    have Y15 := Lib.hid y
    have B15 := Lib.hid ((B13.out.trans (hb14.mono l13)).setCell (p := ⟨g0, k + 1, none⟩) lg0 (.slice (some ⟨gr, 0, none⟩) (b.xs.length - 1) cr))
    have hrl : rp.con = b.xs.drop 1 := by rw [hrp]; exact List.take_of_length_le (by simp)
    have hsl : ((L.set k q).set (k + 1) rp).length = n := by rw [List.length_set, List.length_set]; exact hN
    clear y own14 hb14 hrd HP14 hsub hdb y13
    go_wp2
    go_ret
    have hpg := HP15.out.pages (g := g0) (c := c0) (by rw [hsl]; exact Y15.out)
    rw [hsl, List.map_set, List.map_set, hql, hrl, ← HM.out] at hpg
    exact ⟨_, n, c0, rfl, hpg, B15.out⟩
  · go_simp
    refine hK.out _ _ ⟨ybA, z0A, z1A, z2A, z3A⟩ (fun hHeld => ?_)
    clear hK K
    try simp only [Act.put, List.setIfInBounds_toArray, List.set_cons_zero, List.set_cons_succ]
    refine wpAnyH_ready (rs := [5]) (by kernel_rfl) (by simp) ?_
    refine AllReadyH.cons (o := ?oi19) ?hi19 (fun K hK => ?_) AllReadyH.nil
    case hi19 => (conv => lhs; simp only [List.getElem?_toArray, List.getElem?_cons_zero, List.getElem?_cons_succ]); try exact rfl
    go_simp
    refine hK.out _ _ ⟨ybA, z0A, z1A, z2A, z3A⟩ (fun hHeld19 => ?_)
    clear hK K
    try simp only [Act.put, List.setIfInBounds_toArray, List.set_cons_zero, List.set_cons_succ]
    refine wpAnyH_ready (rs := [14]) (by kernel_rfl) (by simp) ?_
    refine AllReadyH.cons (o := ?oi20) ?hi20 (fun K hK => ?_) AllReadyH.nil
    case hi20 => (conv => lhs; simp only [List.getElem?_toArray, List.getElem?_cons_zero, List.getElem?_cons_succ]); try exact rfl
    refine step_app _ (by rfl) _ _ 30 (by rfl) Tryz.el_ent oaA.out (by rfl) rdA (by rfl) (ES_cells [e]) (max_small (by omega)) (by omega) (by first | omega | (simp; done) | (simp; omega)) ?_
    intro v12 w12 own12 hG12 ho12 hB12
    obtain ⟨gq, cq, rfl⟩ := own_form1 own12 (by omega)
    have yb12 := hG12.cell ybA nea
    have z012 := hG12.cell z0A neab
    have z112 := hG12.cell z1A neab
    have z212 := hG12.cell z2A neab
    have z312 := hG12.cell z3A neab
    have Y12 := Lib.hid (YA.out.kept hG12 (.inr nea))
    have ya12 := hG12.cell yaA nea
    have f12 := own_frozen Y12.out k
    have nk : (⟨g0, k, none⟩ : Addr) ≠ ⟨g0, k + 1, none⟩ := fun e => by simp at e
    have nb0 : (⟨g0, k, none⟩ : Addr) ≠ ⟨b.g, 0, none⟩ := fun e => neb (by simp at e; rw [e.1])
    have nb1 : (⟨g0, k, none⟩ : Addr) ≠ ⟨b.g, 1, none⟩ := fun e => neb (by simp at e; rw [e.1])
    have nb2 : (⟨g0, k, none⟩ : Addr) ≠ ⟨b.g, 2, none⟩ := fun e => neb (by simp at e; rw [e.1])
    have nb3 : (⟨g0, k, none⟩ : Addr) ≠ ⟨b.g, 3, none⟩ := fun e => neb (by simp at e; rw [e.1])
    try simp only [Act.put, List.setIfInBounds_toArray, List.set_cons_zero, List.set_cons_succ]
    refine hK.out _ _ ⟨yb12, z012, z112, z212, z312⟩ (fun hHeld20 => ?_)
    clear hK K
    try simp only [Act.put, List.setIfInBounds_toArray, List.set_cons_zero, List.set_cons_succ]
    refine wpAnyH_take (i := 15) (oi := ?oi21) (v := ?v21) ?hi21 ?hs21 ?hf21 ?hr21 ?hQ21 ?hy21 ?hS21 ?hrest21
    case hi21 => (conv => lhs; simp only [List.getElem?_toArray, List.getElem?_cons_zero, List.getElem?_cons_succ]); try exact rfl
    case hs21 => kernel_rfl
    case hf21 => kernel_rfl
    case hr21 => kernel_rfl
    case hQ21 => exact fun _ _ _ h => h
    case hS21 => assumption
    case hy21 => refine Or.inl ⟨by rfl, ?_⟩; intro w hSw; (try dsimp only at hSw); go_simp; (try with_reducible rfl)
    simp only [Act.put, List.setIfInBounds_toArray, List.set_cons_zero, List.set_cons_succ]
    refine wpAnyH_ready (rs := [16]) (by kernel_rfl) (by simp) ?_
    refine AllReadyH.cons (o := ?oi22) ?hi22 (fun K hK => ?_) AllReadyH.nil
    case hi22 => (conv => lhs; simp only [List.getElem?_toArray, List.getElem?_cons_zero, List.getElem?_cons_succ]); try exact rfl
    go_simp
    refine hK.out _ _ ⟨cellS yb12 nk, cellS z012 nb0, cellS z112 nb1, cellS z212 nb2, cellS z312 nb3⟩ (fun hHeld22 => ?_)
    clear hK K
    try simp only [Act.put, List.setIfInBounds_toArray, List.set_cons_zero, List.set_cons_succ]
    refine wpAnyH_done (by kernel_rfl) ?_ _
    obtain ⟨q, hq⟩ : ∃ q : PgD, q = ⟨gq, cq, a.xs ++ [e], a.xs.length + 1, cq⟩ := ⟨_, rfl⟩
    have hqv : q.val = .slice (some ⟨gq, 0, none⟩) (a.xs.length + 1) cq := by rw [hq]; rfl
    have hqd : OwnD w12 lo q := by
      rw [hq]
      refine ⟨?_, by simp⟩
      simp only [List.length_append, List.length_cons, List.length_nil, ES_append]
      exact own12
    have HP12 := Lib.hid (HPA.out.set kL (by rw [ha]; exact hG12) hqd (by
      rw [hq, ha, sA]
      exact ho12.elim (fun h => .inl (by injection h)) (fun h => .inr (by injection h with h; have h2 : gq = w.heap.size + 1 := h.trans sA; simp only; omega))))
    have HP13 := Lib.hid (HP12.out.app Y12.out (show w12.grownBy (w12.setCell ⟨g0, k, none⟩ (.slice (some ⟨gq, 0, none⟩) (a.xs.length + 1) cq)) (some g0) from only_sc (grown_refl _ _) k _))
    have y := own_set Y12.out k q.val
    rw [PV_set, hqv] at y
    have Y13 := Lib.hid y
    have B13 := Lib.hid ((BA.trans hB12).setCell (p := ⟨g0, k, none⟩) lg0 (.slice (some ⟨gq, 0, none⟩) (a.xs.length + 1) cq))
    clear y ya yb z0 z1 z2 z3 yaA ybA z0A z1A z2A z3A yaB yb12 z012 z112 z212 z312 ya12 f12 own12 hG12 ho12 hB12 rdA BA HPA YA oaA Y12 HP12 hqd nk nb0 nb1 nb2 nb3
    generalize (w12.setCell ⟨g0, k, none⟩ (.slice (some ⟨gq, 0, none⟩) (a.xs.length + 1) cq)) = w13 at B13 HP13 Y13 ⊢
    have kb : k + 1 < (L.set k q).length := by rw [List.length_set]; omega
    have hbb : (L.set k q)[k + 1] = b := by rw [List.getElem_set_ne (by omega)]; exact hb
    have hbm : b ∈ L.set k q := by rw [← hbb]; exact List.getElem_mem _
    have hdb := HP13.out.1 b hbm
    have hsub := hdb.sub 1
    have hbc : b.xs.length ≤ b.c := by obtain ⟨_, _, _, h, _⟩ := own_some hdb.1; exact h
    have y13 := Y13.out.cellAt (k + 1) (by omega)
    rw [PV_get _ (k + 1) kb, hbb, vb] at y13
    have c1 : ¬ (b.c = 1) := by omega
    have c2 : (1 : Int) ≤ ((b.xs.length : Nat) : Int) := by omega
    have c3 : 1 ≤ b.xs.length := by omega
    have Hq := Lib.hid hq
    have hql : q.con = a.xs ++ b.xs.take 1 := by
      rw [hq]
      have : b.xs.take 1 = [e] := by
        rw [List.take_succ_eq_append_getElem z_b, List.take_zero, he]; rfl
      rw [this]
      exact List.take_of_length_le (by simp)
    clear hq hqv
    go_wp2_with fail
    refine (copyEnts_impl (some ⟨b.g, 4, none⟩) (b.xs.length - 1) (b.c - 1) (b.xs.drop 1) (by omega) w13 hsub).mono ?_
    rintro r w14 ⟨v14, rfl, own14, hb14⟩
    obtain ⟨gr, cr, rfl⟩ := own_form1 own14 (by omega)
    have l13 : lo ≤ w13.heap.size := by have := (Y13.out.lt g0 rfl).2; omega
    obtain ⟨rp, hrp⟩ : ∃ q : PgD, q = ⟨gr, cr, b.xs.drop 1, b.xs.length - 1, cr⟩ := ⟨_, rfl⟩
    have hrv : rp.val = .slice (some ⟨gr, 0, none⟩) (b.xs.length - 1) cr := by rw [hrp]; rfl
    have hrd : OwnD w14 lo rp := by
      rw [hrp]
      refine ⟨?_, by simp⟩
      simp only [List.length_drop]
      exact own_more own14 l13
    have HP14 := Lib.hid (HP13.out.set kb (gb_new hb14) hrd (.inr (by rw [hrp]; exact (own_some own14).1)))
    have Y14 := Lib.hid (own_below Y13.out hb14 (Nat.le_refl _))
    obtain ⟨u14, y14⟩ := own_cell1 Y14.out (k + 1) (by omega)
    have f14 := own_frozen Y14.out (k + 1)
    have HP15 := Lib.hid (HP14.out.app Y14.out (show w14.grownBy (w14.setCell ⟨g0, k + 1, none⟩ (.slice (some ⟨gr, 0, none⟩) (b.xs.length - 1) cr)) (some g0) from only_sc (grown_refl _ _) (k + 1) _))
    have y := own_set Y14.out (k + 1) rp.val
    rw [PV_set, hrv] at y
    have Y15 := Lib.hid y
    have B15 := Lib.hid ((B13.out.trans (hb14.mono l13)).setCell (p := ⟨g0, k + 1, none⟩) lg0 (.slice (some ⟨gr, 0, none⟩) (b.xs.length - 1) cr))
    have hrl : rp.con = b.xs.drop 1 := by rw [hrp]; exact List.take_of_length_le (by simp)
    have hsl : ((L.set k q).set (k + 1) rp).length = n := by rw [List.length_set, List.length_set]; exact hN
    clear y own14 hb14 hrd HP14 hsub hdb y13
    go_wp2
    go_ret
    have hpg := HP15.out.pages (g := g0) (c := c0) (by rw [hsl]; exact Y15.out)
    rw [hsl, List.map_set, List.map_set, hql, hrl, ← HM.out] at hpg
    exact ⟨_, n, c0, rfl, hpg, B15.out⟩

set_option maxRecDepth 100000 in
set_option maxHeartbeats 8000000 in
theorem mended_2 (lo g0 n c0 k : Nat) (L : List PgD) (w : World) (hN : L.length = n) (h8 : n ≤ 8) (hk : k < n) (hf : ∀ p ∈ L, full p) (hlen : ∀ p ∈ L, p.xs.length ≤ 4) (hne : ∀ p ∈ L, 0 < p.xs.length) (HO : OwnP w lo L) (HY : w.ownsRow lo 30 1 (.slice (some ⟨g0, 0, none⟩) n c0) n (PV L))
    (h0 : 0 < k) (h2 : ∀ (h : k - 1 < L.length), 2 < L[k - 1].xs.length) (h3 : ∀ (h : k + 1 < L.length), ¬ 2 < L[k + 1].xs.length) :
    Calls Tryz.prog 68 #[.slice (some ⟨g0, 0, none⟩) n c0, .int .i64 k] w fun r w' => MendPost w lo (L.map PgD.con) k r w' := by
  have hO := Lib.hid HO
  have hY := Lib.hid HY
  have hlo : lo ≤ w.heap.size := by have := HY.lt g0 rfl; omega
  have lg0 := (HY.lt g0 rfl).1
  have lg1 := (HY.lt g0 rfl).2
  have kL : k < L.length := by omega
  obtain ⟨j, hj⟩ : ∃ j, j = k - 1 := ⟨_, rfl⟩
  have jL : j < L.length := by omega
  obtain ⟨a, ha, ma, da, va, ya, ca, nea⟩ := pgf HO HY hf (k := k) (kL)
  have oa := Lib.hid da.1
  have ta := con_at hf (k := k) (kL) ha
  have la := hlen _ ma
  have za := hne _ ma
  have ba := da.lt
  obtain ⟨p, hp, mp, dp, vp, yp, cp, nep⟩ := pgf HO HY hf (k := j) (jL)
  have op := Lib.hid dp.1
  have tp := con_at hf (k := j) (jL) hp
  have lp := hlen _ mp
  have zp := hne _ mp
  have bp := dp.lt
  have h2p : 2 < p.xs.length := by have := h2 (by omega); rw [show L[k - 1]'(by omega) = p by rw [← hp]; congr 1; exact hj.symm] at this; exact this
  have hap : p.g ≠ a.g := by have := pg_apart HO (i := j) (j := k) jL kL (by omega); rw [ha, hp] at this; exact this
  have hq1 : (L.map PgD.con).length = n := by rw [List.length_map, hN]
  obtain ⟨m, hm⟩ : ∃ m, m = p.xs.length - 1 := ⟨_, rfl⟩
  have hM : mendP (L.map PgD.con) k = ((L.map PgD.con).set k (p.xs.drop m ++ a.xs)).set j (p.xs.take m) := by
    unfold mendP
    rw [if_neg (by
      rintro ⟨h, h'⟩
      rw [hq1] at h
      obtain ⟨b, hb, _⟩ := pgf HO HY hf (k := k + 1) (by omega)
      rw [con_at hf (k := k + 1) (by omega) hb] at h'
      have := h3 (by omega)
      rw [hb] at this
      exact this h'), ← hj, if_pos ⟨h0, by rw [tp]; exact h2p⟩, ta, tp, hm]
  have HM := Lib.hid hM
  have mlt : m < p.xs.length := by omega
  obtain ⟨hk0, bb, oo, hbo, _, z0, z1, z2, z3⟩ := reads_ent (Reads.of_own op.out) mlt
  simp only [Option.some.injEq, Addr.mk.injEq, and_true] at hbo
  obtain ⟨rfl, rfl⟩ := hbo
  simp only [Nat.zero_add] at z0 z1 z2 z3
  obtain ⟨e, he⟩ : ∃ e, p.xs[m] = e := ⟨_, rfl⟩
  rw [he] at z0 z1 z2 z3
  have hdr : p.xs.drop m = [e] := by
    rw [List.drop_eq_getElem_cons mlt, he, List.drop_eq_nil_of_le (by omega)]
  have q0 : (0 : Int) ≤ (k : Int) := by omega
  have q1 : (k : Int) < (n : Int) := by omega
  have wn : IntKind.i64.wrap ((n : Int) - 1) = (n : Int) - 1 := by rw [IntKind.wrap_i64]; omega
  have q2 : (0 : Int) ≤ (j : Int) := by omega
  have q3 : (j : Int) < (n : Int) := by omega
  have wj : IntKind.i64.wrap ((k : Int) - 1) = (j : Int) := by rw [IntKind.wrap_i64]; omega
  have wm : IntKind.i64.wrap (((p.xs.length : Nat) : Int) - 1) = (m : Int) := by rw [IntKind.wrap_i64]; omega
  have q5 : (((p.xs.length : Nat) : Int) > 2) := by omega
  have q7 : (k : Int) > 0 := by omega
  have q8 : (0 : Int) ≤ (m : Int) := by omega
  have q9 : (m : Int) < ((p.xs.length : Nat) : Int) := by omega
  have hpc : p.xs.length ≤ p.c := by obtain ⟨_, _, _, h, _⟩ := own_some dp.1; exact h
  have qc : (m : Int) ≤ (p.c : Int) := by omega
  have qd : m ≤ p.c := by omega
  have nki : k ≠ j := by omega
  have npg : p.g ≠ g0 := fun e => nep (by rw [e])
  clear hM
  by_cases hc : k + 1 < n
  · obtain ⟨b, hb, _, _, _, yb, _, _⟩ := pgf HO HY hf (k := k + 1) (by omega)
    have h3b : ¬ 2 < b.xs.length := by have := h3 (by omega); rw [hb] at this; exact this
    obtain ⟨i, hi⟩ : ∃ i, i = k + 1 := ⟨_, rfl⟩
    rw [← hi] at yb
    have wi : IntKind.i64.wrap ((k : Int) + 1) = (i : Int) := by rw [IntKind.wrap_i64]; omega
    have q4 : (k : Int) < (n : Int) - 1 := by omega
    have qa : (0 : Int) ≤ (i : Int) := by omega
    have qb : (i : Int) < (n : Int) := by omega
    have qe : ¬ (((b.xs.length : Nat) : Int) > 2) := by omega
    clear h2 h3 HO HY hlen hne hf hi hb hm hj
    go_enter Tryz.func68, Tryz.ntmps68
    go_wp2_with fail
    have yaA := cellA (o := (.cells #[.int .i64 e.h, .int .i64 e.i, .string e.s, .int .i64 e.d] 40)) ya
    have ypA := cellA (o := (.cells #[.int .i64 e.h, .int .i64 e.i, .string e.s, .int .i64 e.d] 40)) yp
    have z0A := cellA (o := (.cells #[.int .i64 e.h, .int .i64 e.i, .string e.s, .int .i64 e.d] 40)) z0
    have z1A := cellA (o := (.cells #[.int .i64 e.h, .int .i64 e.i, .string e.s, .int .i64 e.d] 40)) z1
    have z2A := cellA (o := (.cells #[.int .i64 e.h, .int .i64 e.i, .string e.s, .int .i64 e.d] 40)) z2
    have z3A := cellA (o := (.cells #[.int .i64 e.h, .int .i64 e.i, .string e.s, .int .i64 e.d] 40)) z3
    have yaB : (w.alloc (.cells #[.int .i64 e.h, .int .i64 e.i, .string e.s, .int .i64 e.d] 40)).cell? ⟨g0, k, none⟩ = some (.slice (some ⟨a.g, 0, none⟩) a.xs.length a.c) := yaA
    have YA := Lib.hid (own_below (w := w) hY.out (belA (bel0 _).drew (.cells #[.int .i64 e.h, .int .i64 e.i, .string e.s, .int .i64 e.d] 40)) (Nat.le_refl _))
    have oaA := Lib.hid (own_below (w := w) oa.out (belA (bel0 _).drew (.cells #[.int .i64 e.h, .int .i64 e.i, .string e.s, .int .i64 e.d] 40)) (Nat.le_refl _))
    have litA : (w.drew.alloc (.cells #[.int .i64 e.h, .int .i64 e.i, .string e.s, .int .i64 e.d] 40)).ownsRow w.heap.size 40 4 (.slice (some ⟨w.heap.size, 0, none⟩) 1 1) 1 (ES [e]) := World.ownsRow_lit (e := 40) (size := 4) w.drew #[.int .i64 e.h, .int .i64 e.i, .string e.s, .int .i64 e.d] 1 (Nat.le_refl _) (by unfold maxLen; omega) rfl
    have rdA : Reads (w.drew.alloc (.cells #[.int .i64 e.h, .int .i64 e.i, .string e.s, .int .i64 e.d] 40)) (w.drew.alloc (.cells #[.int .i64 e.h, .int .i64 e.i, .string e.s, .int .i64 e.d] 40)).heap.size 4 (some ⟨a.g, 0, none⟩) a.xs.length (ES a.xs) := Reads.of_own oaA.out
    have BA : Below lo w (w.drew.alloc (.cells #[.int .i64 e.h, .int .i64 e.i, .string e.s, .int .i64 e.d] 40)) := (Below.refl lo w).drew.alloc hlo (.cells #[.int .i64 e.h, .int .i64 e.i, .string e.s, .int .i64 e.d] 40)
    have BW : Below w.heap.size w (w.drew.alloc (.cells #[.int .i64 e.h, .int .i64 e.i, .string e.s, .int .i64 e.d] 40)) := belA (bel0 _).drew (.cells #[.int .i64 e.h, .int .i64 e.i, .string e.s, .int .i64 e.d] 40)
    have n0w : (some g0 : Option Nat) ≠ some w.heap.size := fun e => by injection e with e; omega
    have npw : (some p.g : Option Nat) ≠ some w.heap.size := fun e => by injection e with e; omega
    refine wp_region_held_drew (S := fun w' => w'.cell? ⟨g0, j, none⟩ = some (.slice (some ⟨p.g, 0, none⟩) p.xs.length p.c) ∧ w'.cell? ⟨p.g, m * 4, none⟩ = some (.int .i64 e.h) ∧ w'.cell? ⟨p.g, m * 4 + 1, none⟩ = some (.int .i64 e.i) ∧ w'.cell? ⟨p.g, m * 4 + 2, none⟩ = some (.string e.s) ∧ w'.cell? ⟨p.g, m * 4 + 3, none⟩ = some (.int .i64 e.d)) (by kernel_rfl) ⟨yp, z0, z1, z2, z3⟩ (fun hHeld => ?_)
    refine wpAnyH_take (i := 0) (oi := ?oi1) (v := ?v1) ?hi1 ?hs1 ?hf1 ?hr1 ?hQ1 ?hy1 ?hS1 ?hrest1
    case hi1 => (conv => lhs; simp only [List.getElem?_toArray, List.getElem?_cons_zero]); try exact rfl
    case hs1 => kernel_rfl
    case hf1 => kernel_rfl
    case hr1 => kernel_rfl
    case hQ1 => exact fun _ _ _ h => h
    case hS1 => assumption
    case hy1 => refine Or.inl ⟨by rfl, ?_⟩; intro w hSw; (try dsimp only at hSw); go_simp; (try with_reducible rfl)
    simp only [Act.put, List.setIfInBounds_toArray, List.set_cons_zero, List.set_cons_succ]
    refine wpAnyH_take (i := 1) (oi := ?oi2) (v := ?v2) ?hi2 ?hs2 ?hf2 ?hr2 ?hQ2 ?hy2 ?hS2 ?hrest2
    case hi2 => (conv => lhs; simp only [List.getElem?_toArray, List.getElem?_cons_zero, List.getElem?_cons_succ]); try exact rfl
    case hs2 => kernel_rfl
    case hf2 => kernel_rfl
    case hr2 => kernel_rfl
    case hQ2 => exact fun _ _ _ h => h
    case hS2 => assumption
    case hy2 => refine Or.inl ⟨by rfl, ?_⟩; intro w hSw; (try dsimp only at hSw); go_simp; (try with_reducible rfl)
    simp only [Act.put, List.setIfInBounds_toArray, List.set_cons_zero, List.set_cons_succ]
    refine wpAnyH_take (i := 2) (oi := ?oi3) (v := ?v3) ?hi3 ?hs3 ?hf3 ?hr3 ?hQ3 ?hy3 ?hS3 ?hrest3
    case hi3 => (conv => lhs; simp only [List.getElem?_toArray, List.getElem?_cons_zero, List.getElem?_cons_succ]); try exact rfl
    case hs3 => kernel_rfl
    case hf3 => kernel_rfl
    case hr3 => kernel_rfl
    case hQ3 => exact fun _ _ _ h => h
    case hS3 => assumption
    case hy3 => refine Or.inl ⟨by rfl, ?_⟩; intro w hSw; (try dsimp only at hSw); go_simp; (try with_reducible rfl)
    simp only [Act.put, List.setIfInBounds_toArray, List.set_cons_zero, List.set_cons_succ]
    refine wpAnyH_take (i := 3) (oi := ?oi4) (v := ?v4) ?hi4 ?hs4 ?hf4 ?hr4 ?hQ4 ?hy4 ?hS4 ?hrest4
    case hi4 => (conv => lhs; simp only [List.getElem?_toArray, List.getElem?_cons_zero, List.getElem?_cons_succ]); try exact rfl
    case hs4 => kernel_rfl
    case hf4 => kernel_rfl
    case hr4 => kernel_rfl
    case hQ4 => exact fun _ _ _ h => h
    case hS4 => assumption
    case hy4 => refine Or.inl ⟨by rfl, ?_⟩; intro w hSw; (try dsimp only at hSw); go_simp; (try with_reducible rfl)
    simp only [Act.put, List.setIfInBounds_toArray, List.set_cons_zero, List.set_cons_succ]
    refine wpAnyH_take (i := 4) (oi := ?oi5) (v := ?v5) ?hi5 ?hs5 ?hf5 ?hr5 ?hQ5 ?hy5 ?hS5 ?hrest5
    case hi5 => (conv => lhs; simp only [List.getElem?_toArray, List.getElem?_cons_zero, List.getElem?_cons_succ]); try exact rfl
    case hs5 => kernel_rfl
    case hf5 => kernel_rfl
    case hr5 => kernel_rfl
    case hQ5 => exact fun _ _ _ h => h
    case hS5 => assumption
    case hy5 => refine Or.inl ⟨by rfl, ?_⟩; intro w hSw; (try dsimp only at hSw); go_simp; (try with_reducible rfl)
    simp only [Act.put, List.setIfInBounds_toArray, List.set_cons_zero, List.set_cons_succ]
    refine wpAnyH_take (i := 5) (oi := ?oi6) (v := ?v6) ?hi6 ?hs6 ?hf6 ?hr6 ?hQ6 ?hy6 ?hS6 ?hrest6
    case hi6 => (conv => lhs; simp only [List.getElem?_toArray, List.getElem?_cons_zero, List.getElem?_cons_succ]); try exact rfl
    case hs6 => kernel_rfl
    case hf6 => kernel_rfl
    case hr6 => kernel_rfl
    case hQ6 => exact fun _ _ _ h => h
    case hS6 => assumption
    case hy6 => refine Or.inl ⟨by rfl, ?_⟩; intro w hSw; (try dsimp only at hSw); go_simp; (try with_reducible rfl)
    simp only [Act.put, List.setIfInBounds_toArray, List.set_cons_zero, List.set_cons_succ]
    refine wpAnyH_take (i := 6) (oi := ?oi7) (v := ?v7) ?hi7 ?hs7 ?hf7 ?hr7 ?hQ7 ?hy7 ?hS7 ?hrest7
    case hi7 => (conv => lhs; simp only [List.getElem?_toArray, List.getElem?_cons_zero, List.getElem?_cons_succ]); try exact rfl
    case hs7 => kernel_rfl
    case hf7 => kernel_rfl
    case hr7 => kernel_rfl
    case hQ7 => exact fun _ _ _ h => h
    case hS7 => assumption
    case hy7 => refine Or.inl ⟨by rfl, ?_⟩; intro w hSw; (try dsimp only at hSw); go_simp; (try with_reducible rfl)
    simp only [Act.put, List.setIfInBounds_toArray, List.set_cons_zero, List.set_cons_succ]
    refine wpAnyH_take (i := 7) (oi := ?oi8) (v := ?v8) ?hi8 ?hs8 ?hf8 ?hr8 ?hQ8 ?hy8 ?hS8 ?hrest8
    case hi8 => (conv => lhs; simp only [List.getElem?_toArray, List.getElem?_cons_zero, List.getElem?_cons_succ]); try exact rfl
    case hs8 => kernel_rfl
    case hf8 => kernel_rfl
    case hr8 => kernel_rfl
    case hQ8 => exact fun _ _ _ h => h
    case hS8 => assumption
    case hy8 => refine Or.inl ⟨by rfl, ?_⟩; intro w hSw; (try dsimp only at hSw); go_simp; (try with_reducible rfl)
    simp only [Act.put, List.setIfInBounds_toArray, List.set_cons_zero, List.set_cons_succ]
    refine wpAnyH_take (i := 8) (oi := ?oi9) (v := ?v9) ?hi9 ?hs9 ?hf9 ?hr9 ?hQ9 ?hy9 ?hS9 ?hrest9
    case hi9 => (conv => lhs; simp only [List.getElem?_toArray, List.getElem?_cons_zero, List.getElem?_cons_succ]); try exact rfl
    case hs9 => kernel_rfl
    case hf9 => kernel_rfl
    case hr9 => kernel_rfl
    case hQ9 => exact fun _ _ _ h => h
    case hS9 => assumption
    case hy9 => refine Or.inl ⟨by rfl, ?_⟩; intro w hSw; (try dsimp only at hSw); go_simp; (try with_reducible rfl)
    simp only [Act.put, List.setIfInBounds_toArray, List.set_cons_zero, List.set_cons_succ]
    refine wpAnyH_take (i := 9) (oi := ?oi10) (v := ?v10) ?hi10 ?hs10 ?hf10 ?hr10 ?hQ10 ?hy10 ?hS10 ?hrest10
    case hi10 => (conv => lhs; simp only [List.getElem?_toArray, List.getElem?_cons_zero, List.getElem?_cons_succ]); try exact rfl
    case hs10 => kernel_rfl
    case hf10 => kernel_rfl
    case hr10 => kernel_rfl
    case hQ10 => exact fun _ _ _ h => h
    case hS10 => assumption
    case hy10 => refine Or.inl ⟨by rfl, ?_⟩; intro w hSw; (try dsimp only at hSw); go_simp; (try with_reducible rfl)
    simp only [Act.put, List.setIfInBounds_toArray, List.set_cons_zero, List.set_cons_succ]
    refine wpAnyH_take (i := 11) (oi := ?oi11) (v := ?v11) ?hi11 ?hs11 ?hf11 ?hr11 ?hQ11 ?hy11 ?hS11 ?hrest11
    case hi11 => (conv => lhs; simp only [List.getElem?_toArray, List.getElem?_cons_zero, List.getElem?_cons_succ]); try exact rfl
    case hs11 => kernel_rfl
    case hf11 => kernel_rfl
    case hr11 => kernel_rfl
    case hQ11 => exact fun _ _ _ h => h
    case hS11 => assumption
    case hy11 => refine Or.inl ⟨by rfl, ?_⟩; intro w hSw; (try dsimp only at hSw); go_simp; (try with_reducible rfl)
    simp only [Act.put, List.setIfInBounds_toArray, List.set_cons_zero, List.set_cons_succ]
    refine wpAnyH_take (i := 12) (oi := ?oi12) (v := ?v12) ?hi12 ?hs12 ?hf12 ?hr12 ?hQ12 ?hy12 ?hS12 ?hrest12
    case hi12 => (conv => lhs; simp only [List.getElem?_toArray, List.getElem?_cons_zero, List.getElem?_cons_succ]); try exact rfl
    case hs12 => kernel_rfl
    case hf12 => kernel_rfl
    case hr12 => kernel_rfl
    case hQ12 => exact fun _ _ _ h => h
    case hS12 => assumption
    case hy12 => refine Or.inl ⟨by rfl, ?_⟩; intro w hSw; (try dsimp only at hSw); go_simp; (try with_reducible rfl)
    simp only [Act.put, List.setIfInBounds_toArray, List.set_cons_zero, List.set_cons_succ]
    refine wpAnyH_take (i := 13) (oi := ?oi13) (v := ?v13) ?hi13 ?hs13 ?hf13 ?hr13 ?hQ13 ?hy13 ?hS13 ?hrest13
    case hi13 => (conv => lhs; simp only [List.getElem?_toArray, List.getElem?_cons_zero, List.getElem?_cons_succ]); try exact rfl
    case hs13 => kernel_rfl
    case hf13 => kernel_rfl
    case hr13 => kernel_rfl
    case hQ13 => exact fun _ _ _ h => h
    case hS13 => assumption
    case hy13 => refine Or.inl ⟨by rfl, ?_⟩; intro w hSw; (try dsimp only at hSw); go_simp; (try with_reducible rfl)
    simp only [Act.put, List.setIfInBounds_toArray, List.set_cons_zero, List.set_cons_succ]
    refine wpAnyH_ready (rs := [10, 14]) (by kernel_rfl) (by simp) ?_
    refine AllReadyH.cons (o := ?oi14) ?hi14 (fun K hK => ?_) (AllReadyH.cons (o := ?oi15) ?hi15 (fun K hK => ?_) AllReadyH.nil)
    case hi14 => (conv => lhs; simp only [List.getElem?_toArray, List.getElem?_cons_zero, List.getElem?_cons_succ]); try exact rfl
    case hi15 => (conv => lhs; simp only [List.getElem?_toArray, List.getElem?_cons_zero, List.getElem?_cons_succ]); try exact rfl
    · go_simp
      refine hK.out _ _ ⟨ypA, z0A, z1A, z2A, z3A⟩ (fun hHeld => ?_)
      clear hK K
      try simp only [Act.put, List.setIfInBounds_toArray, List.set_cons_zero, List.set_cons_succ]
      refine wpAnyH_ready (rs := [14]) (by kernel_rfl) (by simp) ?_
      refine AllReadyH.cons (o := ?oi16) ?hi16 (fun K hK => ?_) AllReadyH.nil
      case hi16 => (conv => lhs; simp only [List.getElem?_toArray, List.getElem?_cons_zero, List.getElem?_cons_succ]); try exact rfl
      go_simp
      refine hK.out _ _ ⟨ypA, z0A, z1A, z2A, z3A⟩ (fun hHeld16 => ?_)
      clear hK K
      try simp only [Act.put, List.setIfInBounds_toArray, List.set_cons_zero, List.set_cons_succ]
      refine wpAnyH_ready (rs := [15]) (by kernel_rfl) (by simp) ?_
      refine AllReadyH.cons (o := ?oi17) ?hi17 (fun K hK => ?_) AllReadyH.nil
      case hi17 => (conv => lhs; simp only [List.getElem?_toArray, List.getElem?_cons_zero, List.getElem?_cons_succ]); try exact rfl
      refine step_app _ (by rfl) _ _ 30 (by rfl) Tryz.el_ent litA (by rfl) rdA (by rfl) (ES_cells a.xs) (max_small (by omega)) (by omega) (by first | omega | (simp; done) | (simp; omega)) ?_
      intro v12 w12 own12 hG12 ho12 hB12
      obtain ⟨gq, cq, rfl⟩ := own_form1 own12 (by omega)
      have yp12 := hG12.cell ypA n0w
      have z012 := hG12.cell z0A npw
      have z112 := hG12.cell z1A npw
      have z212 := hG12.cell z2A npw
      have z312 := hG12.cell z3A npw
      have Y12 := Lib.hid (YA.out.kept hG12 (.inr n0w))
      have ya12 := hG12.cell yaA n0w
      have f12 := own_frozen Y12.out k
      have nk : (⟨g0, k, none⟩ : Addr) ≠ ⟨g0, j, none⟩ := fun e => nki (by injection e)
      have nb0 : (⟨g0, k, none⟩ : Addr) ≠ ⟨p.g, m * 4, none⟩ := fun e => npg (by injection e with e; exact e.symm)
      have nb1 : (⟨g0, k, none⟩ : Addr) ≠ ⟨p.g, m * 4 + 1, none⟩ := fun e => npg (by injection e with e; exact e.symm)
      have nb2 : (⟨g0, k, none⟩ : Addr) ≠ ⟨p.g, m * 4 + 2, none⟩ := fun e => npg (by injection e with e; exact e.symm)
      have nb3 : (⟨g0, k, none⟩ : Addr) ≠ ⟨p.g, m * 4 + 3, none⟩ := fun e => npg (by injection e with e; exact e.symm)
      try simp only [Act.put, List.setIfInBounds_toArray, List.set_cons_zero, List.set_cons_succ]
      refine hK.out _ _ ⟨yp12, z012, z112, z212, z312⟩ (fun hHeld17 => ?_)
      clear hK K
      try simp only [Act.put, List.setIfInBounds_toArray, List.set_cons_zero, List.set_cons_succ]
      refine wpAnyH_take (i := 16) (oi := ?oi18) (v := ?v18) ?hi18 ?hs18 ?hf18 ?hr18 ?hQ18 ?hy18 ?hS18 ?hrest18
      case hi18 => (conv => lhs; simp only [List.getElem?_toArray, List.getElem?_cons_zero, List.getElem?_cons_succ]); try exact rfl
      case hs18 => kernel_rfl
      case hf18 => kernel_rfl
      case hr18 => kernel_rfl
      case hQ18 => exact fun _ _ _ h => h
      case hS18 => assumption
      case hy18 => refine Or.inl ⟨by rfl, ?_⟩; intro w hSw; (try dsimp only at hSw); go_simp; (try with_reducible rfl)
      simp only [Act.put, List.setIfInBounds_toArray, List.set_cons_zero, List.set_cons_succ]
      refine wpAnyH_ready (rs := [17]) (by kernel_rfl) (by simp) ?_
      refine AllReadyH.cons (o := ?oi19) ?hi19 (fun K hK => ?_) AllReadyH.nil
      case hi19 => (conv => lhs; simp only [List.getElem?_toArray, List.getElem?_cons_zero, List.getElem?_cons_succ]); try exact rfl
      go_simp
      refine hK.out _ _ ⟨cellS yp12 nk, cellS z012 nb0, cellS z112 nb1, cellS z212 nb2, cellS z312 nb3⟩ (fun hHeld19 => ?_)
      clear hK K
      try simp only [Act.put, List.setIfInBounds_toArray, List.set_cons_zero, List.set_cons_succ]
      refine wpAnyH_done (by kernel_rfl) ?_ _
      obtain ⟨q, hq⟩ : ∃ q : PgD, q = ⟨gq, cq, [e] ++ a.xs, 1 + a.xs.length, cq⟩ := ⟨_, rfl⟩
      have hqv : q.val = .slice (some ⟨gq, 0, none⟩) (1 + a.xs.length) cq := by rw [hq]; rfl
      have hqd : OwnD w12 lo q := by
        rw [hq]
        refine ⟨?_, by simp only [List.length_append, List.length_cons, List.length_nil]; omega⟩
        simp only [List.length_append, List.length_cons, List.length_nil, ES_append]
        exact own_more own12 hlo
      have HP12 := Lib.hid (hO.out.set kL (gb_new (BW.trans hB12)) hqd (.inr (by rw [hq]; exact (own_some own12).1)))
      have HP13 := Lib.hid (HP12.out.app Y12.out (show w12.grownBy (w12.setCell ⟨g0, k, none⟩ (.slice (some ⟨gq, 0, none⟩) (1 + a.xs.length) cq)) (some g0) from only_sc (grown_refl _ _) k _))
      have y := own_set Y12.out k q.val
      rw [PV_set, hqv] at y
      have Y13 := Lib.hid y
      have B13 := Lib.hid ((BA.trans (hB12.mono hlo)).setCell (p := ⟨g0, k, none⟩) lg0 (.slice (some ⟨gq, 0, none⟩) (1 + a.xs.length) cq))
      have hql : q.con = p.xs.drop m ++ a.xs := by rw [hq, hdr]; exact List.take_of_length_le (by simp only [List.length_append, List.length_cons, List.length_nil]; omega)
      clear y ya yp z0 z1 z2 z3 yaA ypA z0A z1A z2A z3A yaB yp12 z012 z112 z212 z312 ya12 f12 own12 hG12 ho12 hB12 rdA BA BW YA oaA litA Y12 HP12 hqd nk nb0 nb1 nb2 nb3 hq hqv
      generalize (w12.setCell ⟨g0, k, none⟩ (.slice (some ⟨gq, 0, none⟩) (1 + a.xs.length) cq)) = w13 at B13 HP13 Y13 ⊢
      have kb : j < (L.set k q).length := by rw [List.length_set]; omega
      have hpp : (L.set k q)[j] = p := by rw [List.getElem_set_ne nki]; exact hp
      have y13 := Y13.out.cellAt j (by omega)
      rw [PV_get _ j kb, hpp, vp] at y13
      have f13 := own_frozen Y13.out j
      obtain ⟨rp, hrp⟩ : ∃ q : PgD, q = ⟨p.g, p.c, p.xs, m, m⟩ := ⟨_, rfl⟩
      have hrv : rp.val = .slice (some ⟨p.g, 0, none⟩) m m := by rw [hrp]; rfl
      have hdp := HP13.out.1 p (by rw [← hpp]; exact List.getElem_mem _)
      have HP14 := Lib.hid (HP13.out.set (q := rp) kb (grown_refl _ _) (by rw [hrp]; exact ⟨hdp.1, Nat.le_of_lt mlt⟩) (.inl (by rw [hpp, hrp])))
      have HP15 := Lib.hid (HP14.out.app Y13.out (show w13.grownBy (w13.setCell ⟨g0, j, none⟩ (.slice (some ⟨p.g, 0, none⟩) m m)) (some g0) from only_sc (grown_refl _ _) j _))
      have y := own_set Y13.out j rp.val
      rw [PV_set, hrv] at y
      have Y15 := Lib.hid y
      have B15 := Lib.hid (B13.out.setCell (p := ⟨g0, j, none⟩) lg0 (.slice (some ⟨p.g, 0, none⟩) m m))
      have hrl : rp.con = p.xs.take m := by rw [hrp]; rfl
      have hsl : ((L.set k q).set j rp).length = n := by rw [List.length_set, List.length_set]; exact hN
      clear y HP14 hdp hrp hrv
      go_wp2
      go_ret
      have hpg := HP15.out.pages (g := g0) (c := c0) (by rw [hsl]; exact Y15.out)
      rw [hsl, List.map_set, List.map_set, hql, hrl, ← HM.out] at hpg
      exact ⟨_, n, c0, rfl, hpg, B15.out⟩
    · go_simp
      refine hK.out _ _ hHeld (fun hHeld => ?_)
      clear hK K
      try simp only [Act.put, List.setIfInBounds_toArray, List.set_cons_zero, List.set_cons_succ]
      refine wpAnyH_ready (rs := [10]) (by kernel_rfl) (by simp) ?_
      refine AllReadyH.cons (o := ?oi20) ?hi20 (fun K hK => ?_) AllReadyH.nil
      case hi20 => (conv => lhs; simp only [List.getElem?_toArray, List.getElem?_cons_zero, List.getElem?_cons_succ]); try exact rfl
      go_simp
      refine hK.out _ _ ⟨ypA, z0A, z1A, z2A, z3A⟩ (fun hHeld20 => ?_)
      clear hK K
      try simp only [Act.put, List.setIfInBounds_toArray, List.set_cons_zero, List.set_cons_succ]
      refine wpAnyH_ready (rs := [15]) (by kernel_rfl) (by simp) ?_
      refine AllReadyH.cons (o := ?oi21) ?hi21 (fun K hK => ?_) AllReadyH.nil
      case hi21 => (conv => lhs; simp only [List.getElem?_toArray, List.getElem?_cons_zero, List.getElem?_cons_succ]); try exact rfl
      refine step_app _ (by rfl) _ _ 30 (by rfl) Tryz.el_ent litA (by rfl) rdA (by rfl) (ES_cells a.xs) (max_small (by omega)) (by omega) (by first | omega | (simp; done) | (simp; omega)) ?_
      intro v12 w12 own12 hG12 ho12 hB12
      obtain ⟨gq, cq, rfl⟩ := own_form1 own12 (by omega)
      have yp12 := hG12.cell ypA n0w
      have z012 := hG12.cell z0A npw
      have z112 := hG12.cell z1A npw
      have z212 := hG12.cell z2A npw
      have z312 := hG12.cell z3A npw
      have Y12 := Lib.hid (YA.out.kept hG12 (.inr n0w))
      have ya12 := hG12.cell yaA n0w
      have f12 := own_frozen Y12.out k
      have nk : (⟨g0, k, none⟩ : Addr) ≠ ⟨g0, j, none⟩ := fun e => nki (by injection e)
      have nb0 : (⟨g0, k, none⟩ : Addr) ≠ ⟨p.g, m * 4, none⟩ := fun e => npg (by injection e with e; exact e.symm)
      have nb1 : (⟨g0, k, none⟩ : Addr) ≠ ⟨p.g, m * 4 + 1, none⟩ := fun e => npg (by injection e with e; exact e.symm)
      have nb2 : (⟨g0, k, none⟩ : Addr) ≠ ⟨p.g, m * 4 + 2, none⟩ := fun e => npg (by injection e with e; exact e.symm)
      have nb3 : (⟨g0, k, none⟩ : Addr) ≠ ⟨p.g, m * 4 + 3, none⟩ := fun e => npg (by injection e with e; exact e.symm)
      try simp only [Act.put, List.setIfInBounds_toArray, List.set_cons_zero, List.set_cons_succ]
      refine hK.out _ _ ⟨yp12, z012, z112, z212, z312⟩ (fun hHeld21 => ?_)
      clear hK K
      try simp only [Act.put, List.setIfInBounds_toArray, List.set_cons_zero, List.set_cons_succ]
      refine wpAnyH_take (i := 16) (oi := ?oi22) (v := ?v22) ?hi22 ?hs22 ?hf22 ?hr22 ?hQ22 ?hy22 ?hS22 ?hrest22
      case hi22 => (conv => lhs; simp only [List.getElem?_toArray, List.getElem?_cons_zero, List.getElem?_cons_succ]); try exact rfl
      case hs22 => kernel_rfl
      case hf22 => kernel_rfl
      case hr22 => kernel_rfl
      case hQ22 => exact fun _ _ _ h => h
      case hS22 => assumption
      case hy22 => refine Or.inl ⟨by rfl, ?_⟩; intro w hSw; (try dsimp only at hSw); go_simp; (try with_reducible rfl)
      simp only [Act.put, List.setIfInBounds_toArray, List.set_cons_zero, List.set_cons_succ]
      refine wpAnyH_ready (rs := [17]) (by kernel_rfl) (by simp) ?_
      refine AllReadyH.cons (o := ?oi23) ?hi23 (fun K hK => ?_) AllReadyH.nil
      case hi23 => (conv => lhs; simp only [List.getElem?_toArray, List.getElem?_cons_zero, List.getElem?_cons_succ]); try exact rfl
      go_simp
      refine hK.out _ _ ⟨cellS yp12 nk, cellS z012 nb0, cellS z112 nb1, cellS z212 nb2, cellS z312 nb3⟩ (fun hHeld23 => ?_)
      clear hK K
      try simp only [Act.put, List.setIfInBounds_toArray, List.set_cons_zero, List.set_cons_succ]
      refine wpAnyH_done (by kernel_rfl) ?_ _
      obtain ⟨q, hq⟩ : ∃ q : PgD, q = ⟨gq, cq, [e] ++ a.xs, 1 + a.xs.length, cq⟩ := ⟨_, rfl⟩
      have hqv : q.val = .slice (some ⟨gq, 0, none⟩) (1 + a.xs.length) cq := by rw [hq]; rfl
      have hqd : OwnD w12 lo q := by
        rw [hq]
        refine ⟨?_, by simp only [List.length_append, List.length_cons, List.length_nil]; omega⟩
        simp only [List.length_append, List.length_cons, List.length_nil, ES_append]
        exact own_more own12 hlo
      have HP12 := Lib.hid (hO.out.set kL (gb_new (BW.trans hB12)) hqd (.inr (by rw [hq]; exact (own_some own12).1)))
      have HP13 := Lib.hid (HP12.out.app Y12.out (show w12.grownBy (w12.setCell ⟨g0, k, none⟩ (.slice (some ⟨gq, 0, none⟩) (1 + a.xs.length) cq)) (some g0) from only_sc (grown_refl _ _) k _))
      have y := own_set Y12.out k q.val
      rw [PV_set, hqv] at y
      have Y13 := Lib.hid y
      have B13 := Lib.hid ((BA.trans (hB12.mono hlo)).setCell (p := ⟨g0, k, none⟩) lg0 (.slice (some ⟨gq, 0, none⟩) (1 + a.xs.length) cq))
      have hql : q.con = p.xs.drop m ++ a.xs := by rw [hq, hdr]; exact List.take_of_length_le (by simp only [List.length_append, List.length_cons, List.length_nil]; omega)
      clear y ya yp z0 z1 z2 z3 yaA ypA z0A z1A z2A z3A yaB yp12 z012 z112 z212 z312 ya12 f12 own12 hG12 ho12 hB12 rdA BA BW YA oaA litA Y12 HP12 hqd nk nb0 nb1 nb2 nb3 hq hqv
      generalize (w12.setCell ⟨g0, k, none⟩ (.slice (some ⟨gq, 0, none⟩) (1 + a.xs.length) cq)) = w13 at B13 HP13 Y13 ⊢
      have kb : j < (L.set k q).length := by rw [List.length_set]; omega
      have hpp : (L.set k q)[j] = p := by rw [List.getElem_set_ne nki]; exact hp
      have y13 := Y13.out.cellAt j (by omega)
      rw [PV_get _ j kb, hpp, vp] at y13
      have f13 := own_frozen Y13.out j
      obtain ⟨rp, hrp⟩ : ∃ q : PgD, q = ⟨p.g, p.c, p.xs, m, m⟩ := ⟨_, rfl⟩
      have hrv : rp.val = .slice (some ⟨p.g, 0, none⟩) m m := by rw [hrp]; rfl
      have hdp := HP13.out.1 p (by rw [← hpp]; exact List.getElem_mem _)
      have HP14 := Lib.hid (HP13.out.set (q := rp) kb (grown_refl _ _) (by rw [hrp]; exact ⟨hdp.1, Nat.le_of_lt mlt⟩) (.inl (by rw [hpp, hrp])))
      have HP15 := Lib.hid (HP14.out.app Y13.out (show w13.grownBy (w13.setCell ⟨g0, j, none⟩ (.slice (some ⟨p.g, 0, none⟩) m m)) (some g0) from only_sc (grown_refl _ _) j _))
      have y := own_set Y13.out j rp.val
      rw [PV_set, hrv] at y
      have Y15 := Lib.hid y
      have B15 := Lib.hid (B13.out.setCell (p := ⟨g0, j, none⟩) lg0 (.slice (some ⟨p.g, 0, none⟩) m m))
      have hrl : rp.con = p.xs.take m := by rw [hrp]; rfl
      have hsl : ((L.set k q).set j rp).length = n := by rw [List.length_set, List.length_set]; exact hN
      clear y HP14 hdp hrp hrv
      go_wp2
      go_ret
      have hpg := HP15.out.pages (g := g0) (c := c0) (by rw [hsl]; exact Y15.out)
      rw [hsl, List.map_set, List.map_set, hql, hrl, ← HM.out] at hpg
      exact ⟨_, n, c0, rfl, hpg, B15.out⟩
  · have q4 : ¬ ((k : Int) < (n : Int) - 1) := by omega
    clear h2 h3 HO HY hlen hne hf hc hm hj
    go_enter Tryz.func68, Tryz.ntmps68
    go_wp2_with fail
    have yaA := cellA (o := (.cells #[.int .i64 e.h, .int .i64 e.i, .string e.s, .int .i64 e.d] 40)) ya
    have ypA := cellA (o := (.cells #[.int .i64 e.h, .int .i64 e.i, .string e.s, .int .i64 e.d] 40)) yp
    have z0A := cellA (o := (.cells #[.int .i64 e.h, .int .i64 e.i, .string e.s, .int .i64 e.d] 40)) z0
    have z1A := cellA (o := (.cells #[.int .i64 e.h, .int .i64 e.i, .string e.s, .int .i64 e.d] 40)) z1
    have z2A := cellA (o := (.cells #[.int .i64 e.h, .int .i64 e.i, .string e.s, .int .i64 e.d] 40)) z2
    have z3A := cellA (o := (.cells #[.int .i64 e.h, .int .i64 e.i, .string e.s, .int .i64 e.d] 40)) z3
    have yaB : (w.alloc (.cells #[.int .i64 e.h, .int .i64 e.i, .string e.s, .int .i64 e.d] 40)).cell? ⟨g0, k, none⟩ = some (.slice (some ⟨a.g, 0, none⟩) a.xs.length a.c) := yaA
    have YA := Lib.hid (own_below (w := w) hY.out (belA (bel0 _).drew (.cells #[.int .i64 e.h, .int .i64 e.i, .string e.s, .int .i64 e.d] 40)) (Nat.le_refl _))
    have oaA := Lib.hid (own_below (w := w) oa.out (belA (bel0 _).drew (.cells #[.int .i64 e.h, .int .i64 e.i, .string e.s, .int .i64 e.d] 40)) (Nat.le_refl _))
    have litA : (w.drew.alloc (.cells #[.int .i64 e.h, .int .i64 e.i, .string e.s, .int .i64 e.d] 40)).ownsRow w.heap.size 40 4 (.slice (some ⟨w.heap.size, 0, none⟩) 1 1) 1 (ES [e]) := World.ownsRow_lit (e := 40) (size := 4) w.drew #[.int .i64 e.h, .int .i64 e.i, .string e.s, .int .i64 e.d] 1 (Nat.le_refl _) (by unfold maxLen; omega) rfl
    have rdA : Reads (w.drew.alloc (.cells #[.int .i64 e.h, .int .i64 e.i, .string e.s, .int .i64 e.d] 40)) (w.drew.alloc (.cells #[.int .i64 e.h, .int .i64 e.i, .string e.s, .int .i64 e.d] 40)).heap.size 4 (some ⟨a.g, 0, none⟩) a.xs.length (ES a.xs) := Reads.of_own oaA.out
    have BA : Below lo w (w.drew.alloc (.cells #[.int .i64 e.h, .int .i64 e.i, .string e.s, .int .i64 e.d] 40)) := (Below.refl lo w).drew.alloc hlo (.cells #[.int .i64 e.h, .int .i64 e.i, .string e.s, .int .i64 e.d] 40)
    have BW : Below w.heap.size w (w.drew.alloc (.cells #[.int .i64 e.h, .int .i64 e.i, .string e.s, .int .i64 e.d] 40)) := belA (bel0 _).drew (.cells #[.int .i64 e.h, .int .i64 e.i, .string e.s, .int .i64 e.d] 40)
    have n0w : (some g0 : Option Nat) ≠ some w.heap.size := fun e => by injection e with e; omega
    have npw : (some p.g : Option Nat) ≠ some w.heap.size := fun e => by injection e with e; omega
    refine wp_region_held_drew (S := fun w' => w'.cell? ⟨g0, j, none⟩ = some (.slice (some ⟨p.g, 0, none⟩) p.xs.length p.c) ∧ w'.cell? ⟨p.g, m * 4, none⟩ = some (.int .i64 e.h) ∧ w'.cell? ⟨p.g, m * 4 + 1, none⟩ = some (.int .i64 e.i) ∧ w'.cell? ⟨p.g, m * 4 + 2, none⟩ = some (.string e.s) ∧ w'.cell? ⟨p.g, m * 4 + 3, none⟩ = some (.int .i64 e.d)) (by kernel_rfl) ⟨yp, z0, z1, z2, z3⟩ (fun hHeld => ?_)
    refine wpAnyH_take (i := 0) (oi := ?oi301) (v := ?v301) ?hi301 ?hs301 ?hf301 ?hr301 ?hQ301 ?hy301 ?hS301 ?hrest301
    case hi301 => (conv => lhs; simp only [List.getElem?_toArray, List.getElem?_cons_zero]); try exact rfl
    case hs301 => kernel_rfl
    case hf301 => kernel_rfl
    case hr301 => kernel_rfl
    case hQ301 => exact fun _ _ _ h => h
    case hS301 => assumption
    case hy301 => refine Or.inl ⟨by rfl, ?_⟩; intro w hSw; (try dsimp only at hSw); go_simp; (try with_reducible rfl)
    simp only [Act.put, List.setIfInBounds_toArray, List.set_cons_zero, List.set_cons_succ]
    refine wpAnyH_take (i := 1) (oi := ?oi302) (v := ?v302) ?hi302 ?hs302 ?hf302 ?hr302 ?hQ302 ?hy302 ?hS302 ?hrest302
    case hi302 => (conv => lhs; simp only [List.getElem?_toArray, List.getElem?_cons_zero, List.getElem?_cons_succ]); try exact rfl
    case hs302 => kernel_rfl
    case hf302 => kernel_rfl
    case hr302 => kernel_rfl
    case hQ302 => exact fun _ _ _ h => h
    case hS302 => assumption
    case hy302 => refine Or.inl ⟨by rfl, ?_⟩; intro w hSw; (try dsimp only at hSw); go_simp; (try with_reducible rfl)
    simp only [Act.put, List.setIfInBounds_toArray, List.set_cons_zero, List.set_cons_succ]
    refine wpAnyH_take (i := 2) (oi := ?oi303) (v := ?v303) ?hi303 ?hs303 ?hf303 ?hr303 ?hQ303 ?hy303 ?hS303 ?hrest303
    case hi303 => (conv => lhs; simp only [List.getElem?_toArray, List.getElem?_cons_zero, List.getElem?_cons_succ]); try exact rfl
    case hs303 => kernel_rfl
    case hf303 => kernel_rfl
    case hr303 => kernel_rfl
    case hQ303 => exact fun _ _ _ h => h
    case hS303 => assumption
    case hy303 => refine Or.inl ⟨by rfl, ?_⟩; intro w hSw; (try dsimp only at hSw); go_simp; (try with_reducible rfl)
    simp only [Act.put, List.setIfInBounds_toArray, List.set_cons_zero, List.set_cons_succ]
    refine wpAnyH_take (i := 3) (oi := ?oi304) (v := ?v304) ?hi304 ?hs304 ?hf304 ?hr304 ?hQ304 ?hy304 ?hS304 ?hrest304
    case hi304 => (conv => lhs; simp only [List.getElem?_toArray, List.getElem?_cons_zero, List.getElem?_cons_succ]); try exact rfl
    case hs304 => kernel_rfl
    case hf304 => kernel_rfl
    case hr304 => kernel_rfl
    case hQ304 => exact fun _ _ _ h => h
    case hS304 => assumption
    case hy304 => refine Or.inl ⟨by rfl, ?_⟩; intro w hSw; (try dsimp only at hSw); go_simp; (try with_reducible rfl)
    simp only [Act.put, List.setIfInBounds_toArray, List.set_cons_zero, List.set_cons_succ]
    refine wpAnyH_take (i := 4) (oi := ?oi305) (v := ?v305) ?hi305 ?hs305 ?hf305 ?hr305 ?hQ305 ?hy305 ?hS305 ?hrest305
    case hi305 => (conv => lhs; simp only [List.getElem?_toArray, List.getElem?_cons_zero, List.getElem?_cons_succ]); try exact rfl
    case hs305 => kernel_rfl
    case hf305 => kernel_rfl
    case hr305 => kernel_rfl
    case hQ305 => exact fun _ _ _ h => h
    case hS305 => assumption
    case hy305 => refine Or.inl ⟨by rfl, ?_⟩; intro w hSw; (try dsimp only at hSw); go_simp; (try with_reducible rfl)
    simp only [Act.put, List.setIfInBounds_toArray, List.set_cons_zero, List.set_cons_succ]
    refine wpAnyH_take (i := 5) (oi := ?oi306) (v := ?v306) ?hi306 ?hs306 ?hf306 ?hr306 ?hQ306 ?hy306 ?hS306 ?hrest306
    case hi306 => (conv => lhs; simp only [List.getElem?_toArray, List.getElem?_cons_zero, List.getElem?_cons_succ]); try exact rfl
    case hs306 => kernel_rfl
    case hf306 => kernel_rfl
    case hr306 => kernel_rfl
    case hQ306 => exact fun _ _ _ h => h
    case hS306 => assumption
    case hy306 => refine Or.inl ⟨by rfl, ?_⟩; intro w hSw; (try dsimp only at hSw); go_simp; (try with_reducible rfl)
    simp only [Act.put, List.setIfInBounds_toArray, List.set_cons_zero, List.set_cons_succ]
    refine wpAnyH_take (i := 6) (oi := ?oi307) (v := ?v307) ?hi307 ?hs307 ?hf307 ?hr307 ?hQ307 ?hy307 ?hS307 ?hrest307
    case hi307 => (conv => lhs; simp only [List.getElem?_toArray, List.getElem?_cons_zero, List.getElem?_cons_succ]); try exact rfl
    case hs307 => kernel_rfl
    case hf307 => kernel_rfl
    case hr307 => kernel_rfl
    case hQ307 => exact fun _ _ _ h => h
    case hS307 => assumption
    case hy307 => refine Or.inl ⟨by rfl, ?_⟩; intro w hSw; (try dsimp only at hSw); go_simp; (try with_reducible rfl)
    simp only [Act.put, List.setIfInBounds_toArray, List.set_cons_zero, List.set_cons_succ]
    refine wpAnyH_take (i := 7) (oi := ?oi308) (v := ?v308) ?hi308 ?hs308 ?hf308 ?hr308 ?hQ308 ?hy308 ?hS308 ?hrest308
    case hi308 => (conv => lhs; simp only [List.getElem?_toArray, List.getElem?_cons_zero, List.getElem?_cons_succ]); try exact rfl
    case hs308 => kernel_rfl
    case hf308 => kernel_rfl
    case hr308 => kernel_rfl
    case hQ308 => exact fun _ _ _ h => h
    case hS308 => assumption
    case hy308 => refine Or.inl ⟨by rfl, ?_⟩; intro w hSw; (try dsimp only at hSw); go_simp; (try with_reducible rfl)
    simp only [Act.put, List.setIfInBounds_toArray, List.set_cons_zero, List.set_cons_succ]
    refine wpAnyH_take (i := 8) (oi := ?oi309) (v := ?v309) ?hi309 ?hs309 ?hf309 ?hr309 ?hQ309 ?hy309 ?hS309 ?hrest309
    case hi309 => (conv => lhs; simp only [List.getElem?_toArray, List.getElem?_cons_zero, List.getElem?_cons_succ]); try exact rfl
    case hs309 => kernel_rfl
    case hf309 => kernel_rfl
    case hr309 => kernel_rfl
    case hQ309 => exact fun _ _ _ h => h
    case hS309 => assumption
    case hy309 => refine Or.inl ⟨by rfl, ?_⟩; intro w hSw; (try dsimp only at hSw); go_simp; (try with_reducible rfl)
    simp only [Act.put, List.setIfInBounds_toArray, List.set_cons_zero, List.set_cons_succ]
    refine wpAnyH_take (i := 9) (oi := ?oi310) (v := ?v310) ?hi310 ?hs310 ?hf310 ?hr310 ?hQ310 ?hy310 ?hS310 ?hrest310
    case hi310 => (conv => lhs; simp only [List.getElem?_toArray, List.getElem?_cons_zero, List.getElem?_cons_succ]); try exact rfl
    case hs310 => kernel_rfl
    case hf310 => kernel_rfl
    case hr310 => kernel_rfl
    case hQ310 => exact fun _ _ _ h => h
    case hS310 => assumption
    case hy310 => refine Or.inl ⟨by rfl, ?_⟩; intro w hSw; (try dsimp only at hSw); go_simp; (try with_reducible rfl)
    simp only [Act.put, List.setIfInBounds_toArray, List.set_cons_zero, List.set_cons_succ]
    refine wpAnyH_take (i := 11) (oi := ?oi311) (v := ?v311) ?hi311 ?hs311 ?hf311 ?hr311 ?hQ311 ?hy311 ?hS311 ?hrest311
    case hi311 => (conv => lhs; simp only [List.getElem?_toArray, List.getElem?_cons_zero, List.getElem?_cons_succ]); try exact rfl
    case hs311 => kernel_rfl
    case hf311 => kernel_rfl
    case hr311 => kernel_rfl
    case hQ311 => exact fun _ _ _ h => h
    case hS311 => assumption
    case hy311 => refine Or.inl ⟨by rfl, ?_⟩; intro w hSw; (try dsimp only at hSw); go_simp; (try with_reducible rfl)
    simp only [Act.put, List.setIfInBounds_toArray, List.set_cons_zero, List.set_cons_succ]
    refine wpAnyH_take (i := 12) (oi := ?oi312) (v := ?v312) ?hi312 ?hs312 ?hf312 ?hr312 ?hQ312 ?hy312 ?hS312 ?hrest312
    case hi312 => (conv => lhs; simp only [List.getElem?_toArray, List.getElem?_cons_zero, List.getElem?_cons_succ]); try exact rfl
    case hs312 => kernel_rfl
    case hf312 => kernel_rfl
    case hr312 => kernel_rfl
    case hQ312 => exact fun _ _ _ h => h
    case hS312 => assumption
    case hy312 => refine Or.inl ⟨by rfl, ?_⟩; intro w hSw; (try dsimp only at hSw); go_simp; (try with_reducible rfl)
    simp only [Act.put, List.setIfInBounds_toArray, List.set_cons_zero, List.set_cons_succ]
    refine wpAnyH_take (i := 13) (oi := ?oi313) (v := ?v313) ?hi313 ?hs313 ?hf313 ?hr313 ?hQ313 ?hy313 ?hS313 ?hrest313
    case hi313 => (conv => lhs; simp only [List.getElem?_toArray, List.getElem?_cons_zero, List.getElem?_cons_succ]); try exact rfl
    case hs313 => kernel_rfl
    case hf313 => kernel_rfl
    case hr313 => kernel_rfl
    case hQ313 => exact fun _ _ _ h => h
    case hS313 => assumption
    case hy313 => refine Or.inl ⟨by rfl, ?_⟩; intro w hSw; (try dsimp only at hSw); go_simp; (try with_reducible rfl)
    simp only [Act.put, List.setIfInBounds_toArray, List.set_cons_zero, List.set_cons_succ]
    refine wpAnyH_ready (rs := [10, 14]) (by kernel_rfl) (by simp) ?_
    refine AllReadyH.cons (o := ?oi314) ?hi314 (fun K hK => ?_) (AllReadyH.cons (o := ?oi315) ?hi315 (fun K hK => ?_) AllReadyH.nil)
    case hi314 => (conv => lhs; simp only [List.getElem?_toArray, List.getElem?_cons_zero, List.getElem?_cons_succ]); try exact rfl
    case hi315 => (conv => lhs; simp only [List.getElem?_toArray, List.getElem?_cons_zero, List.getElem?_cons_succ]); try exact rfl
    · go_simp
      refine hK.out _ _ ⟨ypA, z0A, z1A, z2A, z3A⟩ (fun hHeld => ?_)
      clear hK K
      try simp only [Act.put, List.setIfInBounds_toArray, List.set_cons_zero, List.set_cons_succ]
      refine wpAnyH_ready (rs := [14]) (by kernel_rfl) (by simp) ?_
      refine AllReadyH.cons (o := ?oi316) ?hi316 (fun K hK => ?_) AllReadyH.nil
      case hi316 => (conv => lhs; simp only [List.getElem?_toArray, List.getElem?_cons_zero, List.getElem?_cons_succ]); try exact rfl
      go_simp
      refine hK.out _ _ ⟨ypA, z0A, z1A, z2A, z3A⟩ (fun hHeld316 => ?_)
      clear hK K
      try simp only [Act.put, List.setIfInBounds_toArray, List.set_cons_zero, List.set_cons_succ]
      refine wpAnyH_ready (rs := [15]) (by kernel_rfl) (by simp) ?_
      refine AllReadyH.cons (o := ?oi317) ?hi317 (fun K hK => ?_) AllReadyH.nil
      case hi317 => (conv => lhs; simp only [List.getElem?_toArray, List.getElem?_cons_zero, List.getElem?_cons_succ]); try exact rfl
      refine step_app _ (by rfl) _ _ 30 (by rfl) Tryz.el_ent litA (by rfl) rdA (by rfl) (ES_cells a.xs) (max_small (by omega)) (by omega) (by first | omega | (simp; done) | (simp; omega)) ?_
      intro v12 w12 own12 hG12 ho12 hB12
      obtain ⟨gq, cq, rfl⟩ := own_form1 own12 (by omega)
      have yp12 := hG12.cell ypA n0w
      have z012 := hG12.cell z0A npw
      have z112 := hG12.cell z1A npw
      have z212 := hG12.cell z2A npw
      have z312 := hG12.cell z3A npw
      have Y12 := Lib.hid (YA.out.kept hG12 (.inr n0w))
      have ya12 := hG12.cell yaA n0w
      have f12 := own_frozen Y12.out k
      have nk : (⟨g0, k, none⟩ : Addr) ≠ ⟨g0, j, none⟩ := fun e => nki (by injection e)
      have nb0 : (⟨g0, k, none⟩ : Addr) ≠ ⟨p.g, m * 4, none⟩ := fun e => npg (by injection e with e; exact e.symm)
      have nb1 : (⟨g0, k, none⟩ : Addr) ≠ ⟨p.g, m * 4 + 1, none⟩ := fun e => npg (by injection e with e; exact e.symm)
      have nb2 : (⟨g0, k, none⟩ : Addr) ≠ ⟨p.g, m * 4 + 2, none⟩ := fun e => npg (by injection e with e; exact e.symm)
      have nb3 : (⟨g0, k, none⟩ : Addr) ≠ ⟨p.g, m * 4 + 3, none⟩ := fun e => npg (by injection e with e; exact e.symm)
      try simp only [Act.put, List.setIfInBounds_toArray, List.set_cons_zero, List.set_cons_succ]
      refine hK.out _ _ ⟨yp12, z012, z112, z212, z312⟩ (fun hHeld317 => ?_)
      clear hK K
      try simp only [Act.put, List.setIfInBounds_toArray, List.set_cons_zero, List.set_cons_succ]
      refine wpAnyH_take (i := 16) (oi := ?oi318) (v := ?v318) ?hi318 ?hs318 ?hf318 ?hr318 ?hQ318 ?hy318 ?hS318 ?hrest318
      case hi318 => (conv => lhs; simp only [List.getElem?_toArray, List.getElem?_cons_zero, List.getElem?_cons_succ]); try exact rfl
      case hs318 => kernel_rfl
      case hf318 => kernel_rfl
      case hr318 => kernel_rfl
      case hQ318 => exact fun _ _ _ h => h
      case hS318 => assumption
      case hy318 => refine Or.inl ⟨by rfl, ?_⟩; intro w hSw; (try dsimp only at hSw); go_simp; (try with_reducible rfl)
      simp only [Act.put, List.setIfInBounds_toArray, List.set_cons_zero, List.set_cons_succ]
      refine wpAnyH_ready (rs := [17]) (by kernel_rfl) (by simp) ?_
      refine AllReadyH.cons (o := ?oi319) ?hi319 (fun K hK => ?_) AllReadyH.nil
      case hi319 => (conv => lhs; simp only [List.getElem?_toArray, List.getElem?_cons_zero, List.getElem?_cons_succ]); try exact rfl
      go_simp
      refine hK.out _ _ ⟨cellS yp12 nk, cellS z012 nb0, cellS z112 nb1, cellS z212 nb2, cellS z312 nb3⟩ (fun hHeld319 => ?_)
      clear hK K
      try simp only [Act.put, List.setIfInBounds_toArray, List.set_cons_zero, List.set_cons_succ]
      refine wpAnyH_done (by kernel_rfl) ?_ _
      obtain ⟨q, hq⟩ : ∃ q : PgD, q = ⟨gq, cq, [e] ++ a.xs, 1 + a.xs.length, cq⟩ := ⟨_, rfl⟩
      have hqv : q.val = .slice (some ⟨gq, 0, none⟩) (1 + a.xs.length) cq := by rw [hq]; rfl
      have hqd : OwnD w12 lo q := by
        rw [hq]
        refine ⟨?_, by simp only [List.length_append, List.length_cons, List.length_nil]; omega⟩
        simp only [List.length_append, List.length_cons, List.length_nil, ES_append]
        exact own_more own12 hlo
      have HP12 := Lib.hid (hO.out.set kL (gb_new (BW.trans hB12)) hqd (.inr (by rw [hq]; exact (own_some own12).1)))
      have HP13 := Lib.hid (HP12.out.app Y12.out (show w12.grownBy (w12.setCell ⟨g0, k, none⟩ (.slice (some ⟨gq, 0, none⟩) (1 + a.xs.length) cq)) (some g0) from only_sc (grown_refl _ _) k _))
      have y := own_set Y12.out k q.val
      rw [PV_set, hqv] at y
      have Y13 := Lib.hid y
      have B13 := Lib.hid ((BA.trans (hB12.mono hlo)).setCell (p := ⟨g0, k, none⟩) lg0 (.slice (some ⟨gq, 0, none⟩) (1 + a.xs.length) cq))
      have hql : q.con = p.xs.drop m ++ a.xs := by rw [hq, hdr]; exact List.take_of_length_le (by simp only [List.length_append, List.length_cons, List.length_nil]; omega)
      clear y ya yp z0 z1 z2 z3 yaA ypA z0A z1A z2A z3A yaB yp12 z012 z112 z212 z312 ya12 f12 own12 hG12 ho12 hB12 rdA BA BW YA oaA litA Y12 HP12 hqd nk nb0 nb1 nb2 nb3 hq hqv
      generalize (w12.setCell ⟨g0, k, none⟩ (.slice (some ⟨gq, 0, none⟩) (1 + a.xs.length) cq)) = w13 at B13 HP13 Y13 ⊢
      have kb : j < (L.set k q).length := by rw [List.length_set]; omega
      have hpp : (L.set k q)[j] = p := by rw [List.getElem_set_ne nki]; exact hp
      have y13 := Y13.out.cellAt j (by omega)
      rw [PV_get _ j kb, hpp, vp] at y13
      have f13 := own_frozen Y13.out j
      obtain ⟨rp, hrp⟩ : ∃ q : PgD, q = ⟨p.g, p.c, p.xs, m, m⟩ := ⟨_, rfl⟩
      have hrv : rp.val = .slice (some ⟨p.g, 0, none⟩) m m := by rw [hrp]; rfl
      have hdp := HP13.out.1 p (by rw [← hpp]; exact List.getElem_mem _)
      have HP14 := Lib.hid (HP13.out.set (q := rp) kb (grown_refl _ _) (by rw [hrp]; exact ⟨hdp.1, Nat.le_of_lt mlt⟩) (.inl (by rw [hpp, hrp])))
      have HP15 := Lib.hid (HP14.out.app Y13.out (show w13.grownBy (w13.setCell ⟨g0, j, none⟩ (.slice (some ⟨p.g, 0, none⟩) m m)) (some g0) from only_sc (grown_refl _ _) j _))
      have y := own_set Y13.out j rp.val
      rw [PV_set, hrv] at y
      have Y15 := Lib.hid y
      have B15 := Lib.hid (B13.out.setCell (p := ⟨g0, j, none⟩) lg0 (.slice (some ⟨p.g, 0, none⟩) m m))
      have hrl : rp.con = p.xs.take m := by rw [hrp]; rfl
      have hsl : ((L.set k q).set j rp).length = n := by rw [List.length_set, List.length_set]; exact hN
      clear y HP14 hdp hrp hrv
      go_wp2
      go_ret
      have hpg := HP15.out.pages (g := g0) (c := c0) (by rw [hsl]; exact Y15.out)
      rw [hsl, List.map_set, List.map_set, hql, hrl, ← HM.out] at hpg
      exact ⟨_, n, c0, rfl, hpg, B15.out⟩
    · go_simp
      refine hK.out _ _ hHeld (fun hHeld => ?_)
      clear hK K
      try simp only [Act.put, List.setIfInBounds_toArray, List.set_cons_zero, List.set_cons_succ]
      refine wpAnyH_ready (rs := [10]) (by kernel_rfl) (by simp) ?_
      refine AllReadyH.cons (o := ?oi320) ?hi320 (fun K hK => ?_) AllReadyH.nil
      case hi320 => (conv => lhs; simp only [List.getElem?_toArray, List.getElem?_cons_zero, List.getElem?_cons_succ]); try exact rfl
      go_simp
      refine hK.out _ _ ⟨ypA, z0A, z1A, z2A, z3A⟩ (fun hHeld320 => ?_)
      clear hK K
      try simp only [Act.put, List.setIfInBounds_toArray, List.set_cons_zero, List.set_cons_succ]
      refine wpAnyH_ready (rs := [15]) (by kernel_rfl) (by simp) ?_
      refine AllReadyH.cons (o := ?oi321) ?hi321 (fun K hK => ?_) AllReadyH.nil
      case hi321 => (conv => lhs; simp only [List.getElem?_toArray, List.getElem?_cons_zero, List.getElem?_cons_succ]); try exact rfl
      refine step_app _ (by rfl) _ _ 30 (by rfl) Tryz.el_ent litA (by rfl) rdA (by rfl) (ES_cells a.xs) (max_small (by omega)) (by omega) (by first | omega | (simp; done) | (simp; omega)) ?_
      intro v12 w12 own12 hG12 ho12 hB12
      obtain ⟨gq, cq, rfl⟩ := own_form1 own12 (by omega)
      have yp12 := hG12.cell ypA n0w
      have z012 := hG12.cell z0A npw
      have z112 := hG12.cell z1A npw
      have z212 := hG12.cell z2A npw
      have z312 := hG12.cell z3A npw
      have Y12 := Lib.hid (YA.out.kept hG12 (.inr n0w))
      have ya12 := hG12.cell yaA n0w
      have f12 := own_frozen Y12.out k
      have nk : (⟨g0, k, none⟩ : Addr) ≠ ⟨g0, j, none⟩ := fun e => nki (by injection e)
      have nb0 : (⟨g0, k, none⟩ : Addr) ≠ ⟨p.g, m * 4, none⟩ := fun e => npg (by injection e with e; exact e.symm)
      have nb1 : (⟨g0, k, none⟩ : Addr) ≠ ⟨p.g, m * 4 + 1, none⟩ := fun e => npg (by injection e with e; exact e.symm)
      have nb2 : (⟨g0, k, none⟩ : Addr) ≠ ⟨p.g, m * 4 + 2, none⟩ := fun e => npg (by injection e with e; exact e.symm)
      have nb3 : (⟨g0, k, none⟩ : Addr) ≠ ⟨p.g, m * 4 + 3, none⟩ := fun e => npg (by injection e with e; exact e.symm)
      try simp only [Act.put, List.setIfInBounds_toArray, List.set_cons_zero, List.set_cons_succ]
      refine hK.out _ _ ⟨yp12, z012, z112, z212, z312⟩ (fun hHeld321 => ?_)
      clear hK K
      try simp only [Act.put, List.setIfInBounds_toArray, List.set_cons_zero, List.set_cons_succ]
      refine wpAnyH_take (i := 16) (oi := ?oi322) (v := ?v322) ?hi322 ?hs322 ?hf322 ?hr322 ?hQ322 ?hy322 ?hS322 ?hrest322
      case hi322 => (conv => lhs; simp only [List.getElem?_toArray, List.getElem?_cons_zero, List.getElem?_cons_succ]); try exact rfl
      case hs322 => kernel_rfl
      case hf322 => kernel_rfl
      case hr322 => kernel_rfl
      case hQ322 => exact fun _ _ _ h => h
      case hS322 => assumption
      case hy322 => refine Or.inl ⟨by rfl, ?_⟩; intro w hSw; (try dsimp only at hSw); go_simp; (try with_reducible rfl)
      simp only [Act.put, List.setIfInBounds_toArray, List.set_cons_zero, List.set_cons_succ]
      refine wpAnyH_ready (rs := [17]) (by kernel_rfl) (by simp) ?_
      refine AllReadyH.cons (o := ?oi323) ?hi323 (fun K hK => ?_) AllReadyH.nil
      case hi323 => (conv => lhs; simp only [List.getElem?_toArray, List.getElem?_cons_zero, List.getElem?_cons_succ]); try exact rfl
      go_simp
      refine hK.out _ _ ⟨cellS yp12 nk, cellS z012 nb0, cellS z112 nb1, cellS z212 nb2, cellS z312 nb3⟩ (fun hHeld323 => ?_)
      clear hK K
      try simp only [Act.put, List.setIfInBounds_toArray, List.set_cons_zero, List.set_cons_succ]
      refine wpAnyH_done (by kernel_rfl) ?_ _
      obtain ⟨q, hq⟩ : ∃ q : PgD, q = ⟨gq, cq, [e] ++ a.xs, 1 + a.xs.length, cq⟩ := ⟨_, rfl⟩
      have hqv : q.val = .slice (some ⟨gq, 0, none⟩) (1 + a.xs.length) cq := by rw [hq]; rfl
      have hqd : OwnD w12 lo q := by
        rw [hq]
        refine ⟨?_, by simp only [List.length_append, List.length_cons, List.length_nil]; omega⟩
        simp only [List.length_append, List.length_cons, List.length_nil, ES_append]
        exact own_more own12 hlo
      have HP12 := Lib.hid (hO.out.set kL (gb_new (BW.trans hB12)) hqd (.inr (by rw [hq]; exact (own_some own12).1)))
      have HP13 := Lib.hid (HP12.out.app Y12.out (show w12.grownBy (w12.setCell ⟨g0, k, none⟩ (.slice (some ⟨gq, 0, none⟩) (1 + a.xs.length) cq)) (some g0) from only_sc (grown_refl _ _) k _))
      have y := own_set Y12.out k q.val
      rw [PV_set, hqv] at y
      have Y13 := Lib.hid y
      have B13 := Lib.hid ((BA.trans (hB12.mono hlo)).setCell (p := ⟨g0, k, none⟩) lg0 (.slice (some ⟨gq, 0, none⟩) (1 + a.xs.length) cq))
      have hql : q.con = p.xs.drop m ++ a.xs := by rw [hq, hdr]; exact List.take_of_length_le (by simp only [List.length_append, List.length_cons, List.length_nil]; omega)
      clear y ya yp z0 z1 z2 z3 yaA ypA z0A z1A z2A z3A yaB yp12 z012 z112 z212 z312 ya12 f12 own12 hG12 ho12 hB12 rdA BA BW YA oaA litA Y12 HP12 hqd nk nb0 nb1 nb2 nb3 hq hqv
      generalize (w12.setCell ⟨g0, k, none⟩ (.slice (some ⟨gq, 0, none⟩) (1 + a.xs.length) cq)) = w13 at B13 HP13 Y13 ⊢
      have kb : j < (L.set k q).length := by rw [List.length_set]; omega
      have hpp : (L.set k q)[j] = p := by rw [List.getElem_set_ne nki]; exact hp
      have y13 := Y13.out.cellAt j (by omega)
      rw [PV_get _ j kb, hpp, vp] at y13
      have f13 := own_frozen Y13.out j
      obtain ⟨rp, hrp⟩ : ∃ q : PgD, q = ⟨p.g, p.c, p.xs, m, m⟩ := ⟨_, rfl⟩
      have hrv : rp.val = .slice (some ⟨p.g, 0, none⟩) m m := by rw [hrp]; rfl
      have hdp := HP13.out.1 p (by rw [← hpp]; exact List.getElem_mem _)
      have HP14 := Lib.hid (HP13.out.set (q := rp) kb (grown_refl _ _) (by rw [hrp]; exact ⟨hdp.1, Nat.le_of_lt mlt⟩) (.inl (by rw [hpp, hrp])))
      have HP15 := Lib.hid (HP14.out.app Y13.out (show w13.grownBy (w13.setCell ⟨g0, j, none⟩ (.slice (some ⟨p.g, 0, none⟩) m m)) (some g0) from only_sc (grown_refl _ _) j _))
      have y := own_set Y13.out j rp.val
      rw [PV_set, hrv] at y
      have Y15 := Lib.hid y
      have B15 := Lib.hid (B13.out.setCell (p := ⟨g0, j, none⟩) lg0 (.slice (some ⟨p.g, 0, none⟩) m m))
      have hrl : rp.con = p.xs.take m := by rw [hrp]; rfl
      have hsl : ((L.set k q).set j rp).length = n := by rw [List.length_set, List.length_set]; exact hN
      clear y HP14 hdp hrp hrv
      go_wp2
      go_ret
      have hpg := HP15.out.pages (g := g0) (c := c0) (by rw [hsl]; exact Y15.out)
      rw [hsl, List.map_set, List.map_set, hql, hrl, ← HM.out] at hpg
      exact ⟨_, n, c0, rfl, hpg, B15.out⟩

set_option maxRecDepth 100000 in
set_option maxHeartbeats 8000000 in
theorem mended_3 (lo g0 n c0 k : Nat) (L : List PgD) (w : World) (hN : L.length = n) (h8 : n ≤ 8) (_hk : k < n) (hf : ∀ p ∈ L, full p) (hlen : ∀ p ∈ L, p.xs.length ≤ 4) (hne : ∀ p ∈ L, 0 < p.xs.length) (HO : OwnP w lo L) (HY : w.ownsRow lo 30 1 (.slice (some ⟨g0, 0, none⟩) n c0) n (PV L))
    (hc : k + 1 < n) (h2 : ∀ (h : k + 1 < L.length), ¬ 2 < L[k + 1].xs.length) (h3 : ∀ (h : k - 1 < L.length), 0 < k → ¬ 2 < L[k - 1].xs.length) :
    Calls Tryz.prog 68 #[.slice (some ⟨g0, 0, none⟩) n c0, .int .i64 k] w fun r w' => MendPost w lo (L.map PgD.con) k r w' := by
  have hO := Lib.hid HO
  have hY := Lib.hid HY
  have hlo : lo ≤ w.heap.size := by have := HY.lt g0 rfl; omega
  have lg0 := (HY.lt g0 rfl).1
  have lg1 := (HY.lt g0 rfl).2
  have kL : k < L.length := by omega
  have bL : k + 1 < L.length := by omega
  obtain ⟨i, hi⟩ : ∃ i, i = k + 1 := ⟨_, rfl⟩
  obtain ⟨a, ha, ma, da, va, ya, ca, nea⟩ := pgf HO HY hf (k := k) (kL)
  have oa := Lib.hid da.1
  have ta := con_at hf (k := k) (kL) ha
  have la := hlen _ ma
  have za := hne _ ma
  have ba := da.lt
  obtain ⟨b, hb, mb, db, vb, yb, cb, neb⟩ := pgf HO HY hf (k := k + 1) (bL)
  have ob := Lib.hid db.1
  have tb := con_at hf (k := k + 1) (bL) hb
  have lb := hlen _ mb
  have zb := hne _ mb
  have bb := db.lt
  have h2b : ¬ 2 < b.xs.length := by have := h2 (by omega); rw [hb] at this; exact this
  have hab : a.g ≠ b.g := by have := pg_apart HO (i := k) (j := k + 1) kL (by omega) (by omega); rw [ha, hb] at this; exact this
  have hq1 : (L.map PgD.con).length = n := by rw [List.length_map, hN]
  have hM : mendP (L.map PgD.con) k = ((L.map PgD.con).set k (a.xs ++ b.xs)).take i ++ ((L.map PgD.con).set k (a.xs ++ b.xs)).drop (i + 1) := by
    unfold mendP
    rw [if_neg (by rw [tb]; exact fun h => h2b h.2), if_neg (by
      rintro ⟨h, h'⟩
      obtain ⟨p, hp, mp, _, _, _, _, _⟩ := pgf HO HY hf (k := k - 1) (by omega)
      rw [con_at hf (k := k - 1) (by omega) hp] at h'
      have := h3 (by omega) h
      rw [hp] at this
      exact this h'), if_pos (by rw [hq1]; exact hc), ta, tb, hi]
  have HM := Lib.hid hM
  rw [← hi] at yb
  have q0 : (0 : Int) ≤ (k : Int) := by omega
  have q1 : (k : Int) < (n : Int) := by omega
  have wn : IntKind.i64.wrap ((n : Int) - 1) = (n : Int) - 1 := by rw [IntKind.wrap_i64]; omega
  have q2 : (0 : Int) ≤ (i : Int) := by omega
  have q3 : (i : Int) < (n : Int) := by omega
  have wi : IntKind.i64.wrap ((k : Int) + 1) = (i : Int) := by rw [IntKind.wrap_i64]; omega
  have wi2 : IntKind.i64.wrap ((k : Int) + 2) = (i : Int) + 1 := by rw [IntKind.wrap_i64]; omega
  have q4 : (k : Int) < (n : Int) - 1 := by omega
  have q5 : ¬ (((b.xs.length : Nat) : Int) > 2) := by omega
  have q6 : ¬ (2 < b.xs.length) := h2b
  have nki : k ≠ i := by omega
  have din : i < n := by omega
  clear hi h2b hM
  rcases Nat.eq_zero_or_pos k with k0 | k0
  · have q7 : ¬ ((k : Int) > 0) := by omega
    have q8 : ¬ (0 < k) := by omega
    have q9 : ¬ ((0 : Int) < (k : Int)) := by omega
    clear HO HY hlen hne hf h2 h3 k0
    go_enter Tryz.func68, Tryz.ntmps68
    go_wp2_with fail
    have yaA : w.drew.cell? _ = _ := ya
    have ybA : w.drew.cell? _ = _ := yb
    have HPA := Lib.hid (hO.out.bl (bel0 _).drew)
    have YA := Lib.hid (own_below (w := w) hY.out (bel0 _).drew (Nat.le_refl _))
    have oxA := Lib.hid (own_below (w := w) oa.out (bel0 _).drew (Nat.le_refl _))
    have rdA : Reads w.drew w.drew.heap.size 4 (some ⟨b.g, 0, none⟩) b.xs.length (ES b.xs) := Reads.of_own (own_below (w := w) ob.out (bel0 _).drew (Nat.le_refl _))
    have BA : Below lo w w.drew := (Below.refl lo w).drew
    have sA : w.drew.heap.size = w.heap.size := rfl
    refine wp_region_held_drew (S := fun w' => w'.cell? ⟨g0, i, none⟩ = some (.slice (some ⟨b.g, 0, none⟩) b.xs.length b.c)) (by kernel_rfl) yb (fun hHeld => ?_)
    refine wpAnyH_take (i := 0) (oi := ?oi1) (v := ?v1) ?hi1 ?hs1 ?hf1 ?hr1 ?hQ1 ?hy1 ?hS1 ?hrest1
    case hi1 => (conv => lhs; simp only [List.getElem?_toArray, List.getElem?_cons_zero]); try exact rfl
    case hs1 => kernel_rfl
    case hf1 => kernel_rfl
    case hr1 => kernel_rfl
    case hQ1 => exact fun _ _ _ h => h
    case hS1 => assumption
    case hy1 => refine Or.inl ⟨by rfl, ?_⟩; intro w hSw; (try dsimp only at hSw); go_simp; (try with_reducible rfl)
    simp only [Act.put, List.setIfInBounds_toArray, List.set_cons_zero, List.set_cons_succ]
    refine wpAnyH_take (i := 1) (oi := ?oi2) (v := ?v2) ?hi2 ?hs2 ?hf2 ?hr2 ?hQ2 ?hy2 ?hS2 ?hrest2
    case hi2 => (conv => lhs; simp only [List.getElem?_toArray, List.getElem?_cons_zero, List.getElem?_cons_succ]); try exact rfl
    case hs2 => kernel_rfl
    case hf2 => kernel_rfl
    case hr2 => kernel_rfl
    case hQ2 => exact fun _ _ _ h => h
    case hS2 => assumption
    case hy2 => refine Or.inl ⟨by rfl, ?_⟩; intro w hSw; (try dsimp only at hSw); go_simp; (try with_reducible rfl)
    simp only [Act.put, List.setIfInBounds_toArray, List.set_cons_zero, List.set_cons_succ]
    refine wpAnyH_take (i := 2) (oi := ?oi3) (v := ?v3) ?hi3 ?hs3 ?hf3 ?hr3 ?hQ3 ?hy3 ?hS3 ?hrest3
    case hi3 => (conv => lhs; simp only [List.getElem?_toArray, List.getElem?_cons_zero, List.getElem?_cons_succ]); try exact rfl
    case hs3 => kernel_rfl
    case hf3 => kernel_rfl
    case hr3 => kernel_rfl
    case hQ3 => exact fun _ _ _ h => h
    case hS3 => assumption
    case hy3 => refine Or.inl ⟨by rfl, ?_⟩; intro w hSw; (try dsimp only at hSw); go_simp; (try with_reducible rfl)
    simp only [Act.put, List.setIfInBounds_toArray, List.set_cons_zero, List.set_cons_succ]
    refine wpAnyH_take (i := 3) (oi := ?oi4) (v := ?v4) ?hi4 ?hs4 ?hf4 ?hr4 ?hQ4 ?hy4 ?hS4 ?hrest4
    case hi4 => (conv => lhs; simp only [List.getElem?_toArray, List.getElem?_cons_zero, List.getElem?_cons_succ]); try exact rfl
    case hs4 => kernel_rfl
    case hf4 => kernel_rfl
    case hr4 => kernel_rfl
    case hQ4 => exact fun _ _ _ h => h
    case hS4 => assumption
    case hy4 => refine Or.inl ⟨by rfl, ?_⟩; intro w hSw; (try dsimp only at hSw); go_simp; (try with_reducible rfl)
    simp only [Act.put, List.setIfInBounds_toArray, List.set_cons_zero, List.set_cons_succ]
    refine wpAnyH_take (i := 4) (oi := ?oi5) (v := ?v5) ?hi5 ?hs5 ?hf5 ?hr5 ?hQ5 ?hy5 ?hS5 ?hrest5
    case hi5 => (conv => lhs; simp only [List.getElem?_toArray, List.getElem?_cons_zero, List.getElem?_cons_succ]); try exact rfl
    case hs5 => kernel_rfl
    case hf5 => kernel_rfl
    case hr5 => kernel_rfl
    case hQ5 => exact fun _ _ _ h => h
    case hS5 => assumption
    case hy5 => refine Or.inl ⟨by rfl, ?_⟩; intro w hSw; (try dsimp only at hSw); go_simp; (try with_reducible rfl)
    simp only [Act.put, List.setIfInBounds_toArray, List.set_cons_zero, List.set_cons_succ]
    refine wpAnyH_take (i := 6) (oi := ?oi6) (v := ?v6) ?hi6 ?hs6 ?hf6 ?hr6 ?hQ6 ?hy6 ?hS6 ?hrest6
    case hi6 => (conv => lhs; simp only [List.getElem?_toArray, List.getElem?_cons_zero, List.getElem?_cons_succ]); try exact rfl
    case hs6 => kernel_rfl
    case hf6 => kernel_rfl
    case hr6 => kernel_rfl
    case hQ6 => exact fun _ _ _ h => h
    case hS6 => assumption
    case hy6 => refine Or.inl ⟨by rfl, ?_⟩; intro w hSw; (try dsimp only at hSw); go_simp; (try with_reducible rfl)
    simp only [Act.put, List.setIfInBounds_toArray, List.set_cons_zero, List.set_cons_succ]
    refine wpAnyH_take (i := 7) (oi := ?oi7) (v := ?v7) ?hi7 ?hs7 ?hf7 ?hr7 ?hQ7 ?hy7 ?hS7 ?hrest7
    case hi7 => (conv => lhs; simp only [List.getElem?_toArray, List.getElem?_cons_zero, List.getElem?_cons_succ]); try exact rfl
    case hs7 => kernel_rfl
    case hf7 => kernel_rfl
    case hr7 => kernel_rfl
    case hQ7 => exact fun _ _ _ h => h
    case hS7 => assumption
    case hy7 => refine Or.inl ⟨by rfl, ?_⟩; intro w hSw; (try dsimp only at hSw); go_simp; (try with_reducible rfl)
    simp only [Act.put, List.setIfInBounds_toArray, List.set_cons_zero, List.set_cons_succ]
    refine wpAnyH_take (i := 8) (oi := ?oi8) (v := ?v8) ?hi8 ?hs8 ?hf8 ?hr8 ?hQ8 ?hy8 ?hS8 ?hrest8
    case hi8 => (conv => lhs; simp only [List.getElem?_toArray, List.getElem?_cons_zero, List.getElem?_cons_succ]); try exact rfl
    case hs8 => kernel_rfl
    case hf8 => kernel_rfl
    case hr8 => kernel_rfl
    case hQ8 => exact fun _ _ _ h => h
    case hS8 => assumption
    case hy8 => refine Or.inl ⟨by rfl, ?_⟩; intro w hSw; (try dsimp only at hSw); go_simp; (try with_reducible rfl)
    simp only [Act.put, List.setIfInBounds_toArray, List.set_cons_zero, List.set_cons_succ]
    refine wpAnyH_take (i := 9) (oi := ?oi9) (v := ?v9) ?hi9 ?hs9 ?hf9 ?hr9 ?hQ9 ?hy9 ?hS9 ?hrest9
    case hi9 => (conv => lhs; simp only [List.getElem?_toArray, List.getElem?_cons_zero, List.getElem?_cons_succ]); try exact rfl
    case hs9 => kernel_rfl
    case hf9 => kernel_rfl
    case hr9 => kernel_rfl
    case hQ9 => exact fun _ _ _ h => h
    case hS9 => assumption
    case hy9 => refine Or.inl ⟨by rfl, ?_⟩; intro w hSw; (try dsimp only at hSw); go_simp; (try with_reducible rfl)
    simp only [Act.put, List.setIfInBounds_toArray, List.set_cons_zero, List.set_cons_succ]
    refine wpAnyH_take (i := 10) (oi := ?oi10) (v := ?v10) ?hi10 ?hs10 ?hf10 ?hr10 ?hQ10 ?hy10 ?hS10 ?hrest10
    case hi10 => (conv => lhs; simp only [List.getElem?_toArray, List.getElem?_cons_zero, List.getElem?_cons_succ]); try exact rfl
    case hs10 => kernel_rfl
    case hf10 => kernel_rfl
    case hr10 => kernel_rfl
    case hQ10 => exact fun _ _ _ h => h
    case hS10 => assumption
    case hy10 => refine Or.inl ⟨by rfl, ?_⟩; intro w hSw; (try dsimp only at hSw); go_simp; (try with_reducible rfl)
    simp only [Act.put, List.setIfInBounds_toArray, List.set_cons_zero, List.set_cons_succ]
    refine wpAnyH_ready (rs := [5]) (by kernel_rfl) (by simp) ?_
    refine AllReadyH.cons (o := ?oi11) ?hi11 (fun K hK => ?_) AllReadyH.nil
    case hi11 => (conv => lhs; simp only [List.getElem?_toArray, List.getElem?_cons_zero, List.getElem?_cons_succ]); try exact rfl
    go_simp
    refine hK.out _ _ hHeld (fun hHeld11 => ?_)
    clear hK K
    try simp only [Act.put, List.setIfInBounds_toArray, List.set_cons_zero, List.set_cons_succ]
    refine wpAnyH_ready (rs := [11]) (by kernel_rfl) (by simp) ?_
    refine AllReadyH.cons (o := ?oi12) ?hi12 (fun K hK => ?_) AllReadyH.nil
    case hi12 => (conv => lhs; simp only [List.getElem?_toArray, List.getElem?_cons_zero, List.getElem?_cons_succ]); try exact rfl
    refine step_app _ (by rfl) _ _ 30 (by rfl) Tryz.el_ent oxA.out (by rfl) rdA (by rfl) (ES_cells b.xs) (max_small (by omega)) (by omega) (by first | omega | (simp; done) | (simp; omega)) ?_
    intro v12 w12 own12 hG12 ho12 hB12
    obtain ⟨gq, cq, rfl⟩ := own_form1 own12 (by omega)
    have ys12 := hG12.cell ybA nea
    have Y12 := Lib.hid (YA.out.kept hG12 (.inr nea))
    have yx12 := hG12.cell yaA nea
    have f12 := own_frozen Y12.out k
    have nk : (⟨g0, k, none⟩ : Addr) ≠ ⟨g0, i, none⟩ := fun e => nki (by injection e)
    try simp only [Act.put, List.setIfInBounds_toArray, List.set_cons_zero, List.set_cons_succ]
    refine hK.out _ _ ys12 (fun hHeld12 => ?_)
    clear hK K
    try simp only [Act.put, List.setIfInBounds_toArray, List.set_cons_zero, List.set_cons_succ]
    refine wpAnyH_take (i := 12) (oi := ?oi13) (v := ?v13) ?hi13 ?hs13 ?hf13 ?hr13 ?hQ13 ?hy13 ?hS13 ?hrest13
    case hi13 => (conv => lhs; simp only [List.getElem?_toArray, List.getElem?_cons_zero, List.getElem?_cons_succ]); try exact rfl
    case hs13 => kernel_rfl
    case hf13 => kernel_rfl
    case hr13 => kernel_rfl
    case hQ13 => exact fun _ _ _ h => h
    case hS13 => assumption
    case hy13 => refine Or.inl ⟨by rfl, ?_⟩; intro w hSw; (try dsimp only at hSw); go_simp; (try with_reducible rfl)
    simp only [Act.put, List.setIfInBounds_toArray, List.set_cons_zero, List.set_cons_succ]
    refine wpAnyH_ready (rs := [13]) (by kernel_rfl) (by simp) ?_
    refine AllReadyH.cons (o := ?oi14) ?hi14 (fun K hK => ?_) AllReadyH.nil
    case hi14 => (conv => lhs; simp only [List.getElem?_toArray, List.getElem?_cons_zero, List.getElem?_cons_succ]); try exact rfl
    go_simp
    refine hK.out _ _ (cellS ys12 nk) (fun hHeld14 => ?_)
    clear hK K
    try simp only [Act.put, List.setIfInBounds_toArray, List.set_cons_zero, List.set_cons_succ]
    refine wpAnyH_done (by kernel_rfl) ?_ _
    obtain ⟨q, hq⟩ : ∃ q : PgD, q = ⟨gq, cq, a.xs ++ b.xs, a.xs.length + b.xs.length, cq⟩ := ⟨_, rfl⟩
    have hqv : q.val = .slice (some ⟨gq, 0, none⟩) (a.xs.length + b.xs.length) cq := by rw [hq]; rfl
    have hqd : OwnD w12 lo q := by
      rw [hq]
      refine ⟨?_, by simp⟩
      simp only [List.length_append, ES_append]
      exact own12
    have HP12 := Lib.hid (HPA.out.set kL (by rw [ha]; exact hG12) hqd (by
      rw [hq, ha]
      exact ho12.elim (fun h => .inl (by injection h)) (fun h => .inr (by injection h with h; have h2 : gq = w.heap.size := h.trans sA; simp only; rw [sA]; omega))))
    have HP13 := Lib.hid (HP12.out.app Y12.out (show w12.grownBy (w12.setCell ⟨g0, k, none⟩ (.slice (some ⟨gq, 0, none⟩) (a.xs.length + b.xs.length) cq)) (some g0) from only_sc (grown_refl _ _) k _))
    have y := own_set Y12.out k q.val
    rw [PV_set, hqv] at y
    have Y13 := Lib.hid y
    have B13 := Lib.hid ((BA.trans hB12).setCell (p := ⟨g0, k, none⟩) lg0 (.slice (some ⟨gq, 0, none⟩) (a.xs.length + b.xs.length) cq))
    have hql : q.con = a.xs ++ b.xs := by rw [hq]; exact List.take_of_length_le (by simp)
    clear y rdA BA HPA YA oxA Y12 HP12 hqd nk f12 ys12 yx12 own12 hG12 ho12 hB12 hq hqv
    generalize (w12.setCell ⟨g0, k, none⟩ (.slice (some ⟨gq, 0, none⟩) (a.xs.length + b.xs.length) cq)) = w13 at B13 HP13 Y13 ⊢
    have hsl : (L.set k q).length = n := by rw [List.length_set]; exact hN
    have l13 : lo ≤ w13.heap.size := by have := (Y13.out.lt g0 rfl).2; omega
    go_wp2_with fail
    refine (delP_any lo n i g0 c0 (L.set k q) w13 (by omega) din hsl l13 Y13.out).mono ?_
    rintro r w14 ⟨rfl, own14, hB14, hG14⟩
    have HP14 := Lib.hid ((HP13.out.app Y13.out hG14).sub (M := (L.set k q).take i ++ (L.set k q).drop (i + 1)) (by
      have h := (List.Sublist.refl ((L.set k q).take i)).append (show ((L.set k q).drop (i + 1)).Sublist ((L.set k q).drop i) by rw [← List.drop_drop]; exact List.drop_sublist _ _)
      rwa [List.take_append_drop] at h))
    have hml : ((L.set k q).take i ++ (L.set k q).drop (i + 1)).length = n - 1 := by rw [List.length_append, List.length_take, List.length_drop, hsl]; omega
    have hpg := HP14.out.pages (g := g0) (c := c0) (by rw [hml]; exact own14)
    rw [hml, List.map_append, List.map_take, List.map_drop, List.map_set, hql, ← HM.out] at hpg
    have HPG := Lib.hid hpg
    clear hpg own14
    go_wp2
    go_ret
    exact ⟨_, n - 1, c0, rfl, HPG.out, B13.out.trans hB14⟩
  · obtain ⟨p, hp, mp, _, _, yp, _, _⟩ := pgf HO HY hf (k := k - 1) (by omega)
    have h3p : ¬ 2 < p.xs.length := by have := h3 (by omega) k0; rw [hp] at this; exact this
    obtain ⟨j, hj⟩ : ∃ j, j = k - 1 := ⟨_, rfl⟩
    rw [← hj] at yp
    have q7 : (k : Int) > 0 := by omega
    have wj : IntKind.i64.wrap ((k : Int) - 1) = (j : Int) := by rw [IntKind.wrap_i64]; omega
    have q8 : (0 : Int) ≤ (j : Int) := by omega
    have q9 : (j : Int) < (n : Int) := by omega
    have qa : ¬ (((p.xs.length : Nat) : Int) > 2) := by omega
    have qb : 0 < k := k0
    clear HO HY hlen hne hf h2 h3 k0 hj hp
    go_enter Tryz.func68, Tryz.ntmps68
    go_wp2_with fail
    have yaA : w.drew.cell? _ = _ := ya
    have ybA : w.drew.cell? _ = _ := yb
    have HPA := Lib.hid (hO.out.bl (bel0 _).drew)
    have YA := Lib.hid (own_below (w := w) hY.out (bel0 _).drew (Nat.le_refl _))
    have oxA := Lib.hid (own_below (w := w) oa.out (bel0 _).drew (Nat.le_refl _))
    have rdA : Reads w.drew w.drew.heap.size 4 (some ⟨b.g, 0, none⟩) b.xs.length (ES b.xs) := Reads.of_own (own_below (w := w) ob.out (bel0 _).drew (Nat.le_refl _))
    have BA : Below lo w w.drew := (Below.refl lo w).drew
    have sA : w.drew.heap.size = w.heap.size := rfl
    refine wp_region_held_drew (S := fun w' => w'.cell? ⟨g0, i, none⟩ = some (.slice (some ⟨b.g, 0, none⟩) b.xs.length b.c)) (by kernel_rfl) yb (fun hHeld => ?_)
    refine wpAnyH_take (i := 0) (oi := ?oi201) (v := ?v201) ?hi201 ?hs201 ?hf201 ?hr201 ?hQ201 ?hy201 ?hS201 ?hrest201
    case hi201 => (conv => lhs; simp only [List.getElem?_toArray, List.getElem?_cons_zero]); try exact rfl
    case hs201 => kernel_rfl
    case hf201 => kernel_rfl
    case hr201 => kernel_rfl
    case hQ201 => exact fun _ _ _ h => h
    case hS201 => assumption
    case hy201 => refine Or.inl ⟨by rfl, ?_⟩; intro w hSw; (try dsimp only at hSw); go_simp; (try with_reducible rfl)
    simp only [Act.put, List.setIfInBounds_toArray, List.set_cons_zero, List.set_cons_succ]
    refine wpAnyH_take (i := 1) (oi := ?oi202) (v := ?v202) ?hi202 ?hs202 ?hf202 ?hr202 ?hQ202 ?hy202 ?hS202 ?hrest202
    case hi202 => (conv => lhs; simp only [List.getElem?_toArray, List.getElem?_cons_zero, List.getElem?_cons_succ]); try exact rfl
    case hs202 => kernel_rfl
    case hf202 => kernel_rfl
    case hr202 => kernel_rfl
    case hQ202 => exact fun _ _ _ h => h
    case hS202 => assumption
    case hy202 => refine Or.inl ⟨by rfl, ?_⟩; intro w hSw; (try dsimp only at hSw); go_simp; (try with_reducible rfl)
    simp only [Act.put, List.setIfInBounds_toArray, List.set_cons_zero, List.set_cons_succ]
    refine wpAnyH_take (i := 2) (oi := ?oi203) (v := ?v203) ?hi203 ?hs203 ?hf203 ?hr203 ?hQ203 ?hy203 ?hS203 ?hrest203
    case hi203 => (conv => lhs; simp only [List.getElem?_toArray, List.getElem?_cons_zero, List.getElem?_cons_succ]); try exact rfl
    case hs203 => kernel_rfl
    case hf203 => kernel_rfl
    case hr203 => kernel_rfl
    case hQ203 => exact fun _ _ _ h => h
    case hS203 => assumption
    case hy203 => refine Or.inl ⟨by rfl, ?_⟩; intro w hSw; (try dsimp only at hSw); go_simp; (try with_reducible rfl)
    simp only [Act.put, List.setIfInBounds_toArray, List.set_cons_zero, List.set_cons_succ]
    refine wpAnyH_take (i := 3) (oi := ?oi204) (v := ?v204) ?hi204 ?hs204 ?hf204 ?hr204 ?hQ204 ?hy204 ?hS204 ?hrest204
    case hi204 => (conv => lhs; simp only [List.getElem?_toArray, List.getElem?_cons_zero, List.getElem?_cons_succ]); try exact rfl
    case hs204 => kernel_rfl
    case hf204 => kernel_rfl
    case hr204 => kernel_rfl
    case hQ204 => exact fun _ _ _ h => h
    case hS204 => assumption
    case hy204 => refine Or.inl ⟨by rfl, ?_⟩; intro w hSw; (try dsimp only at hSw); go_simp; (try with_reducible rfl)
    simp only [Act.put, List.setIfInBounds_toArray, List.set_cons_zero, List.set_cons_succ]
    refine wpAnyH_take (i := 4) (oi := ?oi205) (v := ?v205) ?hi205 ?hs205 ?hf205 ?hr205 ?hQ205 ?hy205 ?hS205 ?hrest205
    case hi205 => (conv => lhs; simp only [List.getElem?_toArray, List.getElem?_cons_zero, List.getElem?_cons_succ]); try exact rfl
    case hs205 => kernel_rfl
    case hf205 => kernel_rfl
    case hr205 => kernel_rfl
    case hQ205 => exact fun _ _ _ h => h
    case hS205 => assumption
    case hy205 => refine Or.inl ⟨by rfl, ?_⟩; intro w hSw; (try dsimp only at hSw); go_simp; (try with_reducible rfl)
    simp only [Act.put, List.setIfInBounds_toArray, List.set_cons_zero, List.set_cons_succ]
    refine wpAnyH_take (i := 6) (oi := ?oi206) (v := ?v206) ?hi206 ?hs206 ?hf206 ?hr206 ?hQ206 ?hy206 ?hS206 ?hrest206
    case hi206 => (conv => lhs; simp only [List.getElem?_toArray, List.getElem?_cons_zero, List.getElem?_cons_succ]); try exact rfl
    case hs206 => kernel_rfl
    case hf206 => kernel_rfl
    case hr206 => kernel_rfl
    case hQ206 => exact fun _ _ _ h => h
    case hS206 => assumption
    case hy206 => refine Or.inl ⟨by rfl, ?_⟩; intro w hSw; (try dsimp only at hSw); go_simp; (try with_reducible rfl)
    simp only [Act.put, List.setIfInBounds_toArray, List.set_cons_zero, List.set_cons_succ]
    refine wpAnyH_take (i := 7) (oi := ?oi207) (v := ?v207) ?hi207 ?hs207 ?hf207 ?hr207 ?hQ207 ?hy207 ?hS207 ?hrest207
    case hi207 => (conv => lhs; simp only [List.getElem?_toArray, List.getElem?_cons_zero, List.getElem?_cons_succ]); try exact rfl
    case hs207 => kernel_rfl
    case hf207 => kernel_rfl
    case hr207 => kernel_rfl
    case hQ207 => exact fun _ _ _ h => h
    case hS207 => assumption
    case hy207 => refine Or.inl ⟨by rfl, ?_⟩; intro w hSw; (try dsimp only at hSw); go_simp; (try with_reducible rfl)
    simp only [Act.put, List.setIfInBounds_toArray, List.set_cons_zero, List.set_cons_succ]
    refine wpAnyH_take (i := 8) (oi := ?oi208) (v := ?v208) ?hi208 ?hs208 ?hf208 ?hr208 ?hQ208 ?hy208 ?hS208 ?hrest208
    case hi208 => (conv => lhs; simp only [List.getElem?_toArray, List.getElem?_cons_zero, List.getElem?_cons_succ]); try exact rfl
    case hs208 => kernel_rfl
    case hf208 => kernel_rfl
    case hr208 => kernel_rfl
    case hQ208 => exact fun _ _ _ h => h
    case hS208 => assumption
    case hy208 => refine Or.inl ⟨by rfl, ?_⟩; intro w hSw; (try dsimp only at hSw); go_simp; (try with_reducible rfl)
    simp only [Act.put, List.setIfInBounds_toArray, List.set_cons_zero, List.set_cons_succ]
    refine wpAnyH_take (i := 9) (oi := ?oi209) (v := ?v209) ?hi209 ?hs209 ?hf209 ?hr209 ?hQ209 ?hy209 ?hS209 ?hrest209
    case hi209 => (conv => lhs; simp only [List.getElem?_toArray, List.getElem?_cons_zero, List.getElem?_cons_succ]); try exact rfl
    case hs209 => kernel_rfl
    case hf209 => kernel_rfl
    case hr209 => kernel_rfl
    case hQ209 => exact fun _ _ _ h => h
    case hS209 => assumption
    case hy209 => refine Or.inl ⟨by rfl, ?_⟩; intro w hSw; (try dsimp only at hSw); go_simp; (try with_reducible rfl)
    simp only [Act.put, List.setIfInBounds_toArray, List.set_cons_zero, List.set_cons_succ]
    refine wpAnyH_take (i := 10) (oi := ?oi210) (v := ?v210) ?hi210 ?hs210 ?hf210 ?hr210 ?hQ210 ?hy210 ?hS210 ?hrest210
    case hi210 => (conv => lhs; simp only [List.getElem?_toArray, List.getElem?_cons_zero, List.getElem?_cons_succ]); try exact rfl
    case hs210 => kernel_rfl
    case hf210 => kernel_rfl
    case hr210 => kernel_rfl
    case hQ210 => exact fun _ _ _ h => h
    case hS210 => assumption
    case hy210 => refine Or.inl ⟨by rfl, ?_⟩; intro w hSw; (try dsimp only at hSw); go_simp; (try with_reducible rfl)
    simp only [Act.put, List.setIfInBounds_toArray, List.set_cons_zero, List.set_cons_succ]
    refine wpAnyH_ready (rs := [5]) (by kernel_rfl) (by simp) ?_
    refine AllReadyH.cons (o := ?oi211) ?hi211 (fun K hK => ?_) AllReadyH.nil
    case hi211 => (conv => lhs; simp only [List.getElem?_toArray, List.getElem?_cons_zero, List.getElem?_cons_succ]); try exact rfl
    go_simp
    refine hK.out _ _ hHeld (fun hHeld211 => ?_)
    clear hK K
    try simp only [Act.put, List.setIfInBounds_toArray, List.set_cons_zero, List.set_cons_succ]
    refine wpAnyH_ready (rs := [11]) (by kernel_rfl) (by simp) ?_
    refine AllReadyH.cons (o := ?oi212) ?hi212 (fun K hK => ?_) AllReadyH.nil
    case hi212 => (conv => lhs; simp only [List.getElem?_toArray, List.getElem?_cons_zero, List.getElem?_cons_succ]); try exact rfl
    refine step_app _ (by rfl) _ _ 30 (by rfl) Tryz.el_ent oxA.out (by rfl) rdA (by rfl) (ES_cells b.xs) (max_small (by omega)) (by omega) (by first | omega | (simp; done) | (simp; omega)) ?_
    intro v12 w12 own12 hG12 ho12 hB12
    obtain ⟨gq, cq, rfl⟩ := own_form1 own12 (by omega)
    have ys12 := hG12.cell ybA nea
    have Y12 := Lib.hid (YA.out.kept hG12 (.inr nea))
    have yx12 := hG12.cell yaA nea
    have f12 := own_frozen Y12.out k
    have nk : (⟨g0, k, none⟩ : Addr) ≠ ⟨g0, i, none⟩ := fun e => nki (by injection e)
    try simp only [Act.put, List.setIfInBounds_toArray, List.set_cons_zero, List.set_cons_succ]
    refine hK.out _ _ ys12 (fun hHeld212 => ?_)
    clear hK K
    try simp only [Act.put, List.setIfInBounds_toArray, List.set_cons_zero, List.set_cons_succ]
    refine wpAnyH_take (i := 12) (oi := ?oi213) (v := ?v213) ?hi213 ?hs213 ?hf213 ?hr213 ?hQ213 ?hy213 ?hS213 ?hrest213
    case hi213 => (conv => lhs; simp only [List.getElem?_toArray, List.getElem?_cons_zero, List.getElem?_cons_succ]); try exact rfl
    case hs213 => kernel_rfl
    case hf213 => kernel_rfl
    case hr213 => kernel_rfl
    case hQ213 => exact fun _ _ _ h => h
    case hS213 => assumption
    case hy213 => refine Or.inl ⟨by rfl, ?_⟩; intro w hSw; (try dsimp only at hSw); go_simp; (try with_reducible rfl)
    simp only [Act.put, List.setIfInBounds_toArray, List.set_cons_zero, List.set_cons_succ]
    refine wpAnyH_ready (rs := [13]) (by kernel_rfl) (by simp) ?_
    refine AllReadyH.cons (o := ?oi214) ?hi214 (fun K hK => ?_) AllReadyH.nil
    case hi214 => (conv => lhs; simp only [List.getElem?_toArray, List.getElem?_cons_zero, List.getElem?_cons_succ]); try exact rfl
    go_simp
    refine hK.out _ _ (cellS ys12 nk) (fun hHeld214 => ?_)
    clear hK K
    try simp only [Act.put, List.setIfInBounds_toArray, List.set_cons_zero, List.set_cons_succ]
    refine wpAnyH_done (by kernel_rfl) ?_ _
    obtain ⟨q, hq⟩ : ∃ q : PgD, q = ⟨gq, cq, a.xs ++ b.xs, a.xs.length + b.xs.length, cq⟩ := ⟨_, rfl⟩
    have hqv : q.val = .slice (some ⟨gq, 0, none⟩) (a.xs.length + b.xs.length) cq := by rw [hq]; rfl
    have hqd : OwnD w12 lo q := by
      rw [hq]
      refine ⟨?_, by simp⟩
      simp only [List.length_append, ES_append]
      exact own12
    have HP12 := Lib.hid (HPA.out.set kL (by rw [ha]; exact hG12) hqd (by
      rw [hq, ha]
      exact ho12.elim (fun h => .inl (by injection h)) (fun h => .inr (by injection h with h; have h2 : gq = w.heap.size := h.trans sA; simp only; rw [sA]; omega))))
    have HP13 := Lib.hid (HP12.out.app Y12.out (show w12.grownBy (w12.setCell ⟨g0, k, none⟩ (.slice (some ⟨gq, 0, none⟩) (a.xs.length + b.xs.length) cq)) (some g0) from only_sc (grown_refl _ _) k _))
    have y := own_set Y12.out k q.val
    rw [PV_set, hqv] at y
    have Y13 := Lib.hid y
    have B13 := Lib.hid ((BA.trans hB12).setCell (p := ⟨g0, k, none⟩) lg0 (.slice (some ⟨gq, 0, none⟩) (a.xs.length + b.xs.length) cq))
    have hql : q.con = a.xs ++ b.xs := by rw [hq]; exact List.take_of_length_le (by simp)
    clear y rdA BA HPA YA oxA Y12 HP12 hqd nk f12 ys12 yx12 own12 hG12 ho12 hB12 hq hqv
    generalize (w12.setCell ⟨g0, k, none⟩ (.slice (some ⟨gq, 0, none⟩) (a.xs.length + b.xs.length) cq)) = w13 at B13 HP13 Y13 ⊢
    have hsl : (L.set k q).length = n := by rw [List.length_set]; exact hN
    have l13 : lo ≤ w13.heap.size := by have := (Y13.out.lt g0 rfl).2; omega
    go_wp2_with fail
    refine (delP_any lo n i g0 c0 (L.set k q) w13 (by omega) din hsl l13 Y13.out).mono ?_
    rintro r w14 ⟨rfl, own14, hB14, hG14⟩
    have HP14 := Lib.hid ((HP13.out.app Y13.out hG14).sub (M := (L.set k q).take i ++ (L.set k q).drop (i + 1)) (by
      have h := (List.Sublist.refl ((L.set k q).take i)).append (show ((L.set k q).drop (i + 1)).Sublist ((L.set k q).drop i) by rw [← List.drop_drop]; exact List.drop_sublist _ _)
      rwa [List.take_append_drop] at h))
    have hml : ((L.set k q).take i ++ (L.set k q).drop (i + 1)).length = n - 1 := by rw [List.length_append, List.length_take, List.length_drop, hsl]; omega
    have hpg := HP14.out.pages (g := g0) (c := c0) (by rw [hml]; exact own14)
    rw [hml, List.map_append, List.map_take, List.map_drop, List.map_set, hql, ← HM.out] at hpg
    have HPG := Lib.hid hpg
    clear hpg own14
    go_wp2
    go_ret
    exact ⟨_, n - 1, c0, rfl, HPG.out, B13.out.trans hB14⟩

set_option maxRecDepth 100000 in
set_option maxHeartbeats 8000000 in
theorem mended_4 (lo g0 n c0 k : Nat) (L : List PgD) (w : World) (hN : L.length = n) (h8 : n ≤ 8) (hk : k < n) (hf : ∀ p ∈ L, full p) (hlen : ∀ p ∈ L, p.xs.length ≤ 4) (hne : ∀ p ∈ L, 0 < p.xs.length) (HO : OwnP w lo L) (HY : w.ownsRow lo 30 1 (.slice (some ⟨g0, 0, none⟩) n c0) n (PV L))
    (hc : k + 1 = n) (h0 : 0 < k) (h3 : ∀ (h : k - 1 < L.length), ¬ 2 < L[k - 1].xs.length) :
    Calls Tryz.prog 68 #[.slice (some ⟨g0, 0, none⟩) n c0, .int .i64 k] w fun r w' => MendPost w lo (L.map PgD.con) k r w' := by
  have hO := Lib.hid HO
  have hY := Lib.hid HY
  have hlo : lo ≤ w.heap.size := by have := HY.lt g0 rfl; omega
  have lg0 := (HY.lt g0 rfl).1
  have lg1 := (HY.lt g0 rfl).2
  have kL : k < L.length := by omega
  obtain ⟨j, hj⟩ : ∃ j, j = k - 1 := ⟨_, rfl⟩
  have jL : j < L.length := by omega
  obtain ⟨a, ha, ma, da, va, ya, ca, nea⟩ := pgf HO HY hf (k := k) (kL)
  have oa := Lib.hid da.1
  have ta := con_at hf (k := k) (kL) ha
  have la := hlen _ ma
  have za := hne _ ma
  have ba := da.lt
  obtain ⟨p, hp, mp, dp, vp, yp, cp, nep⟩ := pgf HO HY hf (k := j) (jL)
  have op := Lib.hid dp.1
  have tp := con_at hf (k := j) (jL) hp
  have lp := hlen _ mp
  have zp := hne _ mp
  have bp := dp.lt
  have h3p : ¬ 2 < p.xs.length := by have := h3 (by omega); rw [show L[k - 1]'(by omega) = p by rw [← hp]; congr 1; exact hj.symm] at this; exact this
  have hab : a.g ≠ p.g := by have := pg_apart HO (i := k) (j := j) kL jL (by omega); rw [ha, hp] at this; exact this
  have hq1 : (L.map PgD.con).length = n := by rw [List.length_map, hN]
  have hM : mendP (L.map PgD.con) k = ((L.map PgD.con).set j (p.xs ++ a.xs)).take k ++ ((L.map PgD.con).set j (p.xs ++ a.xs)).drop (k + 1) := by
    unfold mendP
    rw [if_neg (by rw [hq1]; exact fun h => absurd h.1 (by omega)), ← hj, if_neg (by rw [tp]; exact fun h => h3p h.2), if_neg (by rw [hq1]; omega), ta, tp]
  have HM := Lib.hid hM
  have q0 : (0 : Int) ≤ (k : Int) := by omega
  have q1 : (k : Int) < (n : Int) := by omega
  have wn : IntKind.i64.wrap ((n : Int) - 1) = (n : Int) - 1 := by rw [IntKind.wrap_i64]; omega
  have q2 : (0 : Int) ≤ (j : Int) := by omega
  have q3 : (j : Int) < (n : Int) := by omega
  have wj : IntKind.i64.wrap ((k : Int) - 1) = (j : Int) := by rw [IntKind.wrap_i64]; omega
  have wk : IntKind.i64.wrap ((k : Int) + 1) = (k : Int) + 1 := by rw [IntKind.wrap_i64]; omega
  have q4 : ¬ ((k : Int) < (n : Int) - 1) := by omega
  have q5 : ¬ (((p.xs.length : Nat) : Int) > 2) := by omega
  have q6 : ¬ (2 < p.xs.length) := h3p
  have q7 : (k : Int) > 0 := by omega
  have nki : j ≠ k := by omega
  clear hj h3p hM h3 HO HY hlen hne hf hc
  go_enter Tryz.func68, Tryz.ntmps68
  go_wp2_with fail
  have ypA : w.drew.cell? _ = _ := yp
  have yaA : w.drew.cell? _ = _ := ya
  have HPA := Lib.hid (hO.out.bl (bel0 _).drew)
  have YA := Lib.hid (own_below (w := w) hY.out (bel0 _).drew (Nat.le_refl _))
  have oxA := Lib.hid (own_below (w := w) op.out (bel0 _).drew (Nat.le_refl _))
  have rdA : Reads w.drew w.drew.heap.size 4 (some ⟨a.g, 0, none⟩) a.xs.length (ES a.xs) := Reads.of_own (own_below (w := w) oa.out (bel0 _).drew (Nat.le_refl _))
  have BA : Below lo w w.drew := (Below.refl lo w).drew
  have sA : w.drew.heap.size = w.heap.size := rfl
  refine wp_region_held_drew (S := fun w' => w'.cell? ⟨g0, k, none⟩ = some (.slice (some ⟨a.g, 0, none⟩) a.xs.length a.c)) (by kernel_rfl) ya (fun hHeld => ?_)
  refine wpAnyH_take (i := 0) (oi := ?oi1) (v := ?v1) ?hi1 ?hs1 ?hf1 ?hr1 ?hQ1 ?hy1 ?hS1 ?hrest1
  case hi1 => (conv => lhs; simp only [List.getElem?_toArray, List.getElem?_cons_zero]); try exact rfl
  case hs1 => kernel_rfl
  case hf1 => kernel_rfl
  case hr1 => kernel_rfl
  case hQ1 => exact fun _ _ _ h => h
  case hS1 => assumption
  case hy1 => refine Or.inl ⟨by rfl, ?_⟩; intro w hSw; (try dsimp only at hSw); go_simp; (try with_reducible rfl)
  simp only [Act.put, List.setIfInBounds_toArray, List.set_cons_zero, List.set_cons_succ]
  refine wpAnyH_take (i := 1) (oi := ?oi2) (v := ?v2) ?hi2 ?hs2 ?hf2 ?hr2 ?hQ2 ?hy2 ?hS2 ?hrest2
  case hi2 => (conv => lhs; simp only [List.getElem?_toArray, List.getElem?_cons_zero, List.getElem?_cons_succ]); try exact rfl
  case hs2 => kernel_rfl
  case hf2 => kernel_rfl
  case hr2 => kernel_rfl
  case hQ2 => exact fun _ _ _ h => h
  case hS2 => assumption
  case hy2 => refine Or.inl ⟨by rfl, ?_⟩; intro w hSw; (try dsimp only at hSw); go_simp; (try with_reducible rfl)
  simp only [Act.put, List.setIfInBounds_toArray, List.set_cons_zero, List.set_cons_succ]
  refine wpAnyH_take (i := 2) (oi := ?oi3) (v := ?v3) ?hi3 ?hs3 ?hf3 ?hr3 ?hQ3 ?hy3 ?hS3 ?hrest3
  case hi3 => (conv => lhs; simp only [List.getElem?_toArray, List.getElem?_cons_zero, List.getElem?_cons_succ]); try exact rfl
  case hs3 => kernel_rfl
  case hf3 => kernel_rfl
  case hr3 => kernel_rfl
  case hQ3 => exact fun _ _ _ h => h
  case hS3 => assumption
  case hy3 => refine Or.inl ⟨by rfl, ?_⟩; intro w hSw; (try dsimp only at hSw); go_simp; (try with_reducible rfl)
  simp only [Act.put, List.setIfInBounds_toArray, List.set_cons_zero, List.set_cons_succ]
  refine wpAnyH_take (i := 3) (oi := ?oi4) (v := ?v4) ?hi4 ?hs4 ?hf4 ?hr4 ?hQ4 ?hy4 ?hS4 ?hrest4
  case hi4 => (conv => lhs; simp only [List.getElem?_toArray, List.getElem?_cons_zero, List.getElem?_cons_succ]); try exact rfl
  case hs4 => kernel_rfl
  case hf4 => kernel_rfl
  case hr4 => kernel_rfl
  case hQ4 => exact fun _ _ _ h => h
  case hS4 => assumption
  case hy4 => refine Or.inl ⟨by rfl, ?_⟩; intro w hSw; (try dsimp only at hSw); go_simp; (try with_reducible rfl)
  simp only [Act.put, List.setIfInBounds_toArray, List.set_cons_zero, List.set_cons_succ]
  refine wpAnyH_take (i := 4) (oi := ?oi5) (v := ?v5) ?hi5 ?hs5 ?hf5 ?hr5 ?hQ5 ?hy5 ?hS5 ?hrest5
  case hi5 => (conv => lhs; simp only [List.getElem?_toArray, List.getElem?_cons_zero, List.getElem?_cons_succ]); try exact rfl
  case hs5 => kernel_rfl
  case hf5 => kernel_rfl
  case hr5 => kernel_rfl
  case hQ5 => exact fun _ _ _ h => h
  case hS5 => assumption
  case hy5 => refine Or.inl ⟨by rfl, ?_⟩; intro w hSw; (try dsimp only at hSw); go_simp; (try with_reducible rfl)
  simp only [Act.put, List.setIfInBounds_toArray, List.set_cons_zero, List.set_cons_succ]
  refine wpAnyH_take (i := 5) (oi := ?oi6) (v := ?v6) ?hi6 ?hs6 ?hf6 ?hr6 ?hQ6 ?hy6 ?hS6 ?hrest6
  case hi6 => (conv => lhs; simp only [List.getElem?_toArray, List.getElem?_cons_zero, List.getElem?_cons_succ]); try exact rfl
  case hs6 => kernel_rfl
  case hf6 => kernel_rfl
  case hr6 => kernel_rfl
  case hQ6 => exact fun _ _ _ h => h
  case hS6 => assumption
  case hy6 => refine Or.inl ⟨by rfl, ?_⟩; intro w hSw; (try dsimp only at hSw); go_simp; (try with_reducible rfl)
  simp only [Act.put, List.setIfInBounds_toArray, List.set_cons_zero, List.set_cons_succ]
  refine wpAnyH_take (i := 6) (oi := ?oi7) (v := ?v7) ?hi7 ?hs7 ?hf7 ?hr7 ?hQ7 ?hy7 ?hS7 ?hrest7
  case hi7 => (conv => lhs; simp only [List.getElem?_toArray, List.getElem?_cons_zero, List.getElem?_cons_succ]); try exact rfl
  case hs7 => kernel_rfl
  case hf7 => kernel_rfl
  case hr7 => kernel_rfl
  case hQ7 => exact fun _ _ _ h => h
  case hS7 => assumption
  case hy7 => refine Or.inl ⟨by rfl, ?_⟩; intro w hSw; (try dsimp only at hSw); go_simp; (try with_reducible rfl)
  simp only [Act.put, List.setIfInBounds_toArray, List.set_cons_zero, List.set_cons_succ]
  refine wpAnyH_take (i := 8) (oi := ?oi8) (v := ?v8) ?hi8 ?hs8 ?hf8 ?hr8 ?hQ8 ?hy8 ?hS8 ?hrest8
  case hi8 => (conv => lhs; simp only [List.getElem?_toArray, List.getElem?_cons_zero, List.getElem?_cons_succ]); try exact rfl
  case hs8 => kernel_rfl
  case hf8 => kernel_rfl
  case hr8 => kernel_rfl
  case hQ8 => exact fun _ _ _ h => h
  case hS8 => assumption
  case hy8 => refine Or.inl ⟨by rfl, ?_⟩; intro w hSw; (try dsimp only at hSw); go_simp; (try with_reducible rfl)
  simp only [Act.put, List.setIfInBounds_toArray, List.set_cons_zero, List.set_cons_succ]
  refine wpAnyH_take (i := 9) (oi := ?oi9) (v := ?v9) ?hi9 ?hs9 ?hf9 ?hr9 ?hQ9 ?hy9 ?hS9 ?hrest9
  case hi9 => (conv => lhs; simp only [List.getElem?_toArray, List.getElem?_cons_zero, List.getElem?_cons_succ]); try exact rfl
  case hs9 => kernel_rfl
  case hf9 => kernel_rfl
  case hr9 => kernel_rfl
  case hQ9 => exact fun _ _ _ h => h
  case hS9 => assumption
  case hy9 => refine Or.inl ⟨by rfl, ?_⟩; intro w hSw; (try dsimp only at hSw); go_simp; (try with_reducible rfl)
  simp only [Act.put, List.setIfInBounds_toArray, List.set_cons_zero, List.set_cons_succ]
  refine wpAnyH_take (i := 10) (oi := ?oi10) (v := ?v10) ?hi10 ?hs10 ?hf10 ?hr10 ?hQ10 ?hy10 ?hS10 ?hrest10
  case hi10 => (conv => lhs; simp only [List.getElem?_toArray, List.getElem?_cons_zero, List.getElem?_cons_succ]); try exact rfl
  case hs10 => kernel_rfl
  case hf10 => kernel_rfl
  case hr10 => kernel_rfl
  case hQ10 => exact fun _ _ _ h => h
  case hS10 => assumption
  case hy10 => refine Or.inl ⟨by rfl, ?_⟩; intro w hSw; (try dsimp only at hSw); go_simp; (try with_reducible rfl)
  simp only [Act.put, List.setIfInBounds_toArray, List.set_cons_zero, List.set_cons_succ]
  refine wpAnyH_take (i := 11) (oi := ?oi11) (v := ?v11) ?hi11 ?hs11 ?hf11 ?hr11 ?hQ11 ?hy11 ?hS11 ?hrest11
  case hi11 => (conv => lhs; simp only [List.getElem?_toArray, List.getElem?_cons_zero, List.getElem?_cons_succ]); try exact rfl
  case hs11 => kernel_rfl
  case hf11 => kernel_rfl
  case hr11 => kernel_rfl
  case hQ11 => exact fun _ _ _ h => h
  case hS11 => assumption
  case hy11 => refine Or.inl ⟨by rfl, ?_⟩; intro w hSw; (try dsimp only at hSw); go_simp; (try with_reducible rfl)
  simp only [Act.put, List.setIfInBounds_toArray, List.set_cons_zero, List.set_cons_succ]
  refine wpAnyH_ready (rs := [7]) (by kernel_rfl) (by simp) ?_
  refine AllReadyH.cons (o := ?oi12) ?hi12 (fun K hK => ?_) AllReadyH.nil
  case hi12 => (conv => lhs; simp only [List.getElem?_toArray, List.getElem?_cons_zero, List.getElem?_cons_succ]); try exact rfl
  go_simp
  refine hK.out _ _ hHeld (fun hHeld12 => ?_)
  clear hK K
  try simp only [Act.put, List.setIfInBounds_toArray, List.set_cons_zero, List.set_cons_succ]
  refine wpAnyH_ready (rs := [12]) (by kernel_rfl) (by simp) ?_
  refine AllReadyH.cons (o := ?oi13) ?hi13 (fun K hK => ?_) AllReadyH.nil
  case hi13 => (conv => lhs; simp only [List.getElem?_toArray, List.getElem?_cons_zero, List.getElem?_cons_succ]); try exact rfl
  refine step_app _ (by rfl) _ _ 30 (by rfl) Tryz.el_ent oxA.out (by rfl) rdA (by rfl) (ES_cells a.xs) (max_small (by omega)) (by omega) (by first | omega | (simp; done) | (simp; omega)) ?_
  intro v12 w12 own12 hG12 ho12 hB12
  obtain ⟨gq, cq, rfl⟩ := own_form1 own12 (by omega)
  have ys12 := hG12.cell yaA nep
  have Y12 := Lib.hid (YA.out.kept hG12 (.inr nep))
  have yx12 := hG12.cell ypA nep
  have f12 := own_frozen Y12.out j
  have nk : (⟨g0, j, none⟩ : Addr) ≠ ⟨g0, k, none⟩ := fun e => nki (by injection e)
  try simp only [Act.put, List.setIfInBounds_toArray, List.set_cons_zero, List.set_cons_succ]
  refine hK.out _ _ ys12 (fun hHeld13 => ?_)
  clear hK K
  try simp only [Act.put, List.setIfInBounds_toArray, List.set_cons_zero, List.set_cons_succ]
  refine wpAnyH_take (i := 13) (oi := ?oi14) (v := ?v14) ?hi14 ?hs14 ?hf14 ?hr14 ?hQ14 ?hy14 ?hS14 ?hrest14
  case hi14 => (conv => lhs; simp only [List.getElem?_toArray, List.getElem?_cons_zero, List.getElem?_cons_succ]); try exact rfl
  case hs14 => kernel_rfl
  case hf14 => kernel_rfl
  case hr14 => kernel_rfl
  case hQ14 => exact fun _ _ _ h => h
  case hS14 => assumption
  case hy14 => refine Or.inl ⟨by rfl, ?_⟩; intro w hSw; (try dsimp only at hSw); go_simp; (try with_reducible rfl)
  simp only [Act.put, List.setIfInBounds_toArray, List.set_cons_zero, List.set_cons_succ]
  refine wpAnyH_ready (rs := [14]) (by kernel_rfl) (by simp) ?_
  refine AllReadyH.cons (o := ?oi15) ?hi15 (fun K hK => ?_) AllReadyH.nil
  case hi15 => (conv => lhs; simp only [List.getElem?_toArray, List.getElem?_cons_zero, List.getElem?_cons_succ]); try exact rfl
  go_simp
  refine hK.out _ _ (cellS ys12 nk) (fun hHeld15 => ?_)
  clear hK K
  try simp only [Act.put, List.setIfInBounds_toArray, List.set_cons_zero, List.set_cons_succ]
  refine wpAnyH_done (by kernel_rfl) ?_ _
  obtain ⟨q, hq⟩ : ∃ q : PgD, q = ⟨gq, cq, p.xs ++ a.xs, p.xs.length + a.xs.length, cq⟩ := ⟨_, rfl⟩
  have hqv : q.val = .slice (some ⟨gq, 0, none⟩) (p.xs.length + a.xs.length) cq := by rw [hq]; rfl
  have hqd : OwnD w12 lo q := by
    rw [hq]
    refine ⟨?_, by simp⟩
    simp only [List.length_append, ES_append]
    exact own12
  have HP12 := Lib.hid (HPA.out.set jL (by rw [hp]; exact hG12) hqd (by
    rw [hq, hp]
    exact ho12.elim (fun h => .inl (by injection h)) (fun h => .inr (by injection h with h; have h2 : gq = w.heap.size := h.trans sA; simp only; rw [sA]; omega))))
  have HP13 := Lib.hid (HP12.out.app Y12.out (show w12.grownBy (w12.setCell ⟨g0, j, none⟩ (.slice (some ⟨gq, 0, none⟩) (p.xs.length + a.xs.length) cq)) (some g0) from only_sc (grown_refl _ _) j _))
  have y := own_set Y12.out j q.val
  rw [PV_set, hqv] at y
  have Y13 := Lib.hid y
  have B13 := Lib.hid ((BA.trans hB12).setCell (p := ⟨g0, j, none⟩) lg0 (.slice (some ⟨gq, 0, none⟩) (p.xs.length + a.xs.length) cq))
  have hql : q.con = p.xs ++ a.xs := by rw [hq]; exact List.take_of_length_le (by simp)
  clear y rdA BA HPA YA oxA Y12 HP12 hqd nk f12 ys12 yx12 own12 hG12 ho12 hB12 hq hqv
  generalize (w12.setCell ⟨g0, j, none⟩ (.slice (some ⟨gq, 0, none⟩) (p.xs.length + a.xs.length) cq)) = w13 at B13 HP13 Y13 ⊢
  have hsl : (L.set j q).length = n := by rw [List.length_set]; exact hN
  have l13 : lo ≤ w13.heap.size := by have := (Y13.out.lt g0 rfl).2; omega
  go_wp2_with fail
  refine (delP_any lo n k g0 c0 (L.set j q) w13 (by omega) hk hsl l13 Y13.out).mono ?_
  rintro r w14 ⟨rfl, own14, hB14, hG14⟩
  have HP14 := Lib.hid ((HP13.out.app Y13.out hG14).sub (M := (L.set j q).take k ++ (L.set j q).drop (k + 1)) (by
    have h := (List.Sublist.refl ((L.set j q).take k)).append (show ((L.set j q).drop (k + 1)).Sublist ((L.set j q).drop k) by rw [← List.drop_drop]; exact List.drop_sublist _ _)
    rwa [List.take_append_drop] at h))
  have hml : ((L.set j q).take k ++ (L.set j q).drop (k + 1)).length = n - 1 := by rw [List.length_append, List.length_take, List.length_drop, hsl]; omega
  have hpg := HP14.out.pages (g := g0) (c := c0) (by rw [hml]; exact own14)
  rw [hml, List.map_append, List.map_take, List.map_drop, List.map_set, hql, ← HM.out] at hpg
  have HPG := Lib.hid hpg
  clear hpg own14
  go_wp2
  go_ret
  exact ⟨_, n - 1, c0, rfl, HPG.out, B13.out.trans hB14⟩

theorem mended_any (lo g0 n c0 k : Nat) (L : List PgD) (w : World) (hN : L.length = n) (h8 : n ≤ 8) (hk : k < n) (h2 : 2 ≤ n) (hf : ∀ p ∈ L, full p) (hlen : ∀ p ∈ L, p.xs.length ≤ 4) (hne : ∀ p ∈ L, 0 < p.xs.length) (HO : OwnP w lo L) (HY : w.ownsRow lo 30 1 (.slice (some ⟨g0, 0, none⟩) n c0) n (PV L)) :
    Calls Tryz.prog 68 #[.slice (some ⟨g0, 0, none⟩) n c0, .int .i64 k] w fun r w' => MendPost w lo (L.map PgD.con) k r w' := by
  by_cases h1 : ∃ h : k + 1 < L.length, 2 < L[k + 1].xs.length
  · obtain ⟨h, h'⟩ := h1
    exact mended_1 lo g0 n c0 k L w hN h8 hk hf hlen hne HO HY (by omega) (fun _ => h')
  · by_cases h3 : ∃ h : k - 1 < L.length, 0 < k ∧ 2 < L[k - 1].xs.length
    · obtain ⟨h, h', h''⟩ := h3
      exact mended_2 lo g0 n c0 k L w hN h8 hk hf hlen hne HO HY h' (fun _ => h'') (fun h e => h1 ⟨h, e⟩)
    · by_cases h4 : k + 1 < n
      · exact mended_3 lo g0 n c0 k L w hN h8 hk hf hlen hne HO HY h4 (fun h e => h1 ⟨h, e⟩) (fun h a e => h3 ⟨h, a, e⟩)
      · exact mended_4 lo g0 n c0 k L w hN h8 hk hf hlen hne HO HY (by omega) (by omega) (fun h e => h3 ⟨h, by omega, e⟩)

end Go.Proofs.YtbchbmcphbeikaaGreatDoor
