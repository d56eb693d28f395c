/- A page of one entry is mended: way 1. -/
import Derived.Test.YtlnjgpekgnkakaaPgMnd
import Derived.Test.YtlnjgpekgnkakaaRegH
namespace Go.Proofs.Ytlnjgpekgnkakaa
open Go Go.RowKit

set_option maxRecDepth 100000 in
set_option maxHeartbeats 8000000 in
theorem mended_1 (lo g0 n c0 k : Nat) (L : List PgD) (w : World) (hN : L.length = n) (h8 : n ≤ 8) (_hk : k < n) (hf : ∀ p ∈ L, full p) (hlen : ∀ p ∈ L, p.xs.length ≤ 4) (hne : ∀ p ∈ L, 0 < p.xs.length) (HO : OwnP w lo L) (HY : w.ownsRow lo 25 1 (.slice (some ⟨g0, 0, none⟩) n c0) n (PV L))
    (hc : k + 1 < n) (h2 : ∀ (h : k + 1 < L.length), 2 < L[k + 1].xs.length) :
    Calls Try.prog 17 #[.slice (some ⟨g0, 0, none⟩) n c0, .int .i64 k] w fun r w' => MendPost w lo (L.map PgD.con) k r w' := by
  have hO := Lib.hid HO
  have hY := Lib.hid HY
  have hlo : lo ≤ w.heap.size := by have := HY.lt g0 rfl; omega
  have lg0 := (HY.lt g0 rfl).1
  have lg1 := (HY.lt g0 rfl).2
  have kL : k < L.length := by omega
  obtain ⟨a, ha, ma, da, va, ya, ca, nea⟩ := pgf HO HY hf (k := k) (kL)
  have oa := Lib.hid da.1
  have ta := con_at hf (k := k) (kL) ha
  have la := hlen _ ma
  have za := hne _ ma
  have ba := da.lt
  obtain ⟨b, hb, mb, db, vb, yb, cb, neb⟩ := pgf HO HY hf (k := k + 1) (by omega)
  have ob := Lib.hid db.1
  have tb := con_at hf (k := k + 1) (by omega) hb
  have lb := hlen _ mb
  have zb := hne _ mb
  have bb := db.lt
  have h2b : 2 < b.xs.length := by have := h2 (by omega); rw [hb] at this; exact this
  have hab : a.g ≠ b.g := by have := pg_apart HO (i := k) (j := k + 1) kL (by omega) (by omega); rw [ha, hb] at this; exact this
  have hq1 : (L.map PgD.con).length = n := by rw [List.length_map, hN]
  have hM : mendP (L.map PgD.con) k = ((L.map PgD.con).set k (a.xs ++ b.xs.take 1)).set (k + 1) (b.xs.drop 1) := by unfold mendP; rw [if_pos ⟨by rw [hq1]; exact hc, by rw [tb]; exact h2b⟩, ta, tb]
  have HM := Lib.hid hM
  obtain ⟨hk0, bb, oo, hbo, _, z0, z1, z2, z3⟩ := reads_ent (Reads.of_own ob.out) (show 0 < b.xs.length by omega)
  simp only [Option.some.injEq, Addr.mk.injEq, and_true] at hbo
  obtain ⟨rfl, rfl⟩ := hbo
  simp only [Nat.zero_mul, Nat.add_zero, Nat.zero_add] at z0 z1 z2 z3
  obtain ⟨e, he⟩ : ∃ e, b.xs[0] = e := ⟨_, rfl⟩
  rw [he] at z0 z1 z2 z3
  have q0 : (0 : Int) ≤ (k : Int) := by omega
  have q1 : (k : Int) < (n : Int) := by omega
  have q2 : (0 : Int) ≤ (k : Int) + 1 := by omega
  have q3 : (k : Int) + 1 < (n : Int) := by omega
  have wn : IntKind.i64.wrap ((n : Int) - 1) = (n : Int) - 1 := by rw [IntKind.wrap_i64]; omega
  have wk : IntKind.i64.wrap ((k : Int) + 1) = (k : Int) + 1 := by rw [IntKind.wrap_i64]; omega
  have tk : ((k : Int) + 1).toNat = k + 1 := by omega
  have q4 : (k : Int) < (n : Int) - 1 := by omega
  have q5 : ((b.xs.length : Nat) : Int) > 2 := by omega
  have q6 : ((b.xs.length : Nat) : Int) > 0 := by omega
  have z_b : 0 < b.xs.length := hk0
  clear HO HY hlen hne hf h2 hM
  go_enter Try.func17, Try.ntmps17
  go_wp2_with fail
  have yaA := cellA (o := (.cells #[.int .i64 e.h, .int .i64 e.i, .string e.s, .int .i64 e.d] 28)) ya
  have ybA := cellA (o := (.cells #[.int .i64 e.h, .int .i64 e.i, .string e.s, .int .i64 e.d] 28)) yb
  have z0A := cellA (o := (.cells #[.int .i64 e.h, .int .i64 e.i, .string e.s, .int .i64 e.d] 28)) z0
  have z1A := cellA (o := (.cells #[.int .i64 e.h, .int .i64 e.i, .string e.s, .int .i64 e.d] 28)) z1
  have z2A := cellA (o := (.cells #[.int .i64 e.h, .int .i64 e.i, .string e.s, .int .i64 e.d] 28)) z2
  have z3A := cellA (o := (.cells #[.int .i64 e.h, .int .i64 e.i, .string e.s, .int .i64 e.d] 28)) z3
  have yaB : (w.alloc (.cells #[.int .i64 e.h, .int .i64 e.i, .string e.s, .int .i64 e.d] 28)).cell? ⟨g0, k, none⟩ = some (.slice (some ⟨a.g, 0, none⟩) a.xs.length a.c) := yaA
  have HPA := Lib.hid (hO.out.bl (belA (bel0 _).drew (.cells #[.int .i64 e.h, .int .i64 e.i, .string e.s, .int .i64 e.d] 28)))
  have YA := Lib.hid (own_below (w := w) hY.out (belA (bel0 _).drew (.cells #[.int .i64 e.h, .int .i64 e.i, .string e.s, .int .i64 e.d] 28)) (Nat.le_refl _))
  have oaA := Lib.hid (own_below (w := w) oa.out (belA (bel0 _).drew (.cells #[.int .i64 e.h, .int .i64 e.i, .string e.s, .int .i64 e.d] 28)) (Nat.le_refl _))
  have rdA : Reads (w.drew.alloc (.cells #[.int .i64 e.h, .int .i64 e.i, .string e.s, .int .i64 e.d] 28)) (w.heap.size + 1) 4 (some ⟨w.heap.size, 0, none⟩) 1 (ES [e]) := reads_new w.drew _ _ 4 1 (by rfl)
  have BA : Below lo w (w.drew.alloc (.cells #[.int .i64 e.h, .int .i64 e.i, .string e.s, .int .i64 e.d] 28)) := (Below.refl lo w).drew.alloc hlo (.cells #[.int .i64 e.h, .int .i64 e.i, .string e.s, .int .i64 e.d] 28)
  have sA : (w.drew.alloc (.cells #[.int .i64 e.h, .int .i64 e.i, .string e.s, .int .i64 e.d] 28)).heap.size = w.heap.size + 1 := World.size_alloc w.drew _
  have neab : (some b.g : Option Nat) ≠ some a.g := fun e => hab (by injection e with e; exact e.symm)
  refine wp_region_held_drew (S := fun w' => w'.cell? ⟨g0, k + 1, none⟩ = some (.slice (some ⟨b.g, 0, none⟩) b.xs.length b.c) ∧ w'.cell? ⟨b.g, 0, none⟩ = some (.int .i64 e.h) ∧ w'.cell? ⟨b.g, 1, none⟩ = some (.int .i64 e.i) ∧ w'.cell? ⟨b.g, 2, none⟩ = some (.string e.s) ∧ w'.cell? ⟨b.g, 3, none⟩ = some (.int .i64 e.d)) (by kernel_rfl) ⟨yb, z0, z1, z2, z3⟩ (fun hHeld => ?_)
  refine wpAnyH_take (i := 0) (oi := ?oi1) (v := ?v1) ?hi1 ?hs1 ?hf1 ?hr1 ?hQ1 ?hy1 ?hS1 ?hrest1
  case hi1 => (conv => lhs; simp only [List.getElem?_toArray, List.getElem?_cons_zero]); try exact rfl
  case hs1 => kernel_rfl
  case hf1 => kernel_rfl
  case hr1 => kernel_rfl
  case hQ1 => exact fun _ _ _ h => h
  case hS1 => assumption
  case hy1 => refine Or.inl ⟨by rfl, ?_⟩; intro w hSw; (try dsimp only at hSw); go_simp; (try with_reducible rfl)
  simp only [Act.put, List.setIfInBounds_toArray, List.set_cons_zero, List.set_cons_succ]
  refine wpAnyH_take (i := 1) (oi := ?oi2) (v := ?v2) ?hi2 ?hs2 ?hf2 ?hr2 ?hQ2 ?hy2 ?hS2 ?hrest2
  case hi2 => (conv => lhs; simp only [List.getElem?_toArray, List.getElem?_cons_zero, List.getElem?_cons_succ]); try exact rfl
  case hs2 => kernel_rfl
  case hf2 => kernel_rfl
  case hr2 => kernel_rfl
  case hQ2 => exact fun _ _ _ h => h
  case hS2 => assumption
  case hy2 => refine Or.inl ⟨by rfl, ?_⟩; intro w hSw; (try dsimp only at hSw); go_simp; (try with_reducible rfl)
  simp only [Act.put, List.setIfInBounds_toArray, List.set_cons_zero, List.set_cons_succ]
  refine wpAnyH_take (i := 2) (oi := ?oi3) (v := ?v3) ?hi3 ?hs3 ?hf3 ?hr3 ?hQ3 ?hy3 ?hS3 ?hrest3
  case hi3 => (conv => lhs; simp only [List.getElem?_toArray, List.getElem?_cons_zero, List.getElem?_cons_succ]); try exact rfl
  case hs3 => kernel_rfl
  case hf3 => kernel_rfl
  case hr3 => kernel_rfl
  case hQ3 => exact fun _ _ _ h => h
  case hS3 => assumption
  case hy3 => refine Or.inl ⟨by rfl, ?_⟩; intro w hSw; (try dsimp only at hSw); go_simp; (try with_reducible rfl)
  simp only [Act.put, List.setIfInBounds_toArray, List.set_cons_zero, List.set_cons_succ]
  refine wpAnyH_take (i := 3) (oi := ?oi4) (v := ?v4) ?hi4 ?hs4 ?hf4 ?hr4 ?hQ4 ?hy4 ?hS4 ?hrest4
  case hi4 => (conv => lhs; simp only [List.getElem?_toArray, List.getElem?_cons_zero, List.getElem?_cons_succ]); try exact rfl
  case hs4 => kernel_rfl
  case hf4 => kernel_rfl
  case hr4 => kernel_rfl
  case hQ4 => exact fun _ _ _ h => h
  case hS4 => assumption
  case hy4 => refine Or.inl ⟨by rfl, ?_⟩; intro w hSw; (try dsimp only at hSw); go_simp; (try with_reducible rfl)
  simp only [Act.put, List.setIfInBounds_toArray, List.set_cons_zero, List.set_cons_succ]
  refine wpAnyH_take (i := 4) (oi := ?oi5) (v := ?v5) ?hi5 ?hs5 ?hf5 ?hr5 ?hQ5 ?hy5 ?hS5 ?hrest5
  case hi5 => (conv => lhs; simp only [List.getElem?_toArray, List.getElem?_cons_zero, List.getElem?_cons_succ]); try exact rfl
  case hs5 => kernel_rfl
  case hf5 => kernel_rfl
  case hr5 => kernel_rfl
  case hQ5 => exact fun _ _ _ h => h
  case hS5 => assumption
  case hy5 => refine Or.inl ⟨by rfl, ?_⟩; intro w hSw; (try dsimp only at hSw); go_simp; (try with_reducible rfl)
  simp only [Act.put, List.setIfInBounds_toArray, List.set_cons_zero, List.set_cons_succ]
  refine wpAnyH_take (i := 6) (oi := ?oi6) (v := ?v6) ?hi6 ?hs6 ?hf6 ?hr6 ?hQ6 ?hy6 ?hS6 ?hrest6
  case hi6 => (conv => lhs; simp only [List.getElem?_toArray, List.getElem?_cons_zero, List.getElem?_cons_succ]); try exact rfl
  case hs6 => kernel_rfl
  case hf6 => kernel_rfl
  case hr6 => kernel_rfl
  case hQ6 => exact fun _ _ _ h => h
  case hS6 => assumption
  case hy6 => refine Or.inl ⟨by rfl, ?_⟩; intro w hSw; (try dsimp only at hSw); go_simp; (try with_reducible rfl)
  simp only [Act.put, List.setIfInBounds_toArray, List.set_cons_zero, List.set_cons_succ]
  refine wpAnyH_take (i := 7) (oi := ?oi7) (v := ?v7) ?hi7 ?hs7 ?hf7 ?hr7 ?hQ7 ?hy7 ?hS7 ?hrest7
  case hi7 => (conv => lhs; simp only [List.getElem?_toArray, List.getElem?_cons_zero, List.getElem?_cons_succ]); try exact rfl
  case hs7 => kernel_rfl
  case hf7 => kernel_rfl
  case hr7 => kernel_rfl
  case hQ7 => exact fun _ _ _ h => h
  case hS7 => assumption
  case hy7 => refine Or.inl ⟨by rfl, ?_⟩; intro w hSw; (try dsimp only at hSw); go_simp; (try with_reducible rfl)
  simp only [Act.put, List.setIfInBounds_toArray, List.set_cons_zero, List.set_cons_succ]
  refine wpAnyH_take (i := 8) (oi := ?oi8) (v := ?v8) ?hi8 ?hs8 ?hf8 ?hr8 ?hQ8 ?hy8 ?hS8 ?hrest8
  case hi8 => (conv => lhs; simp only [List.getElem?_toArray, List.getElem?_cons_zero, List.getElem?_cons_succ]); try exact rfl
  case hs8 => kernel_rfl
  case hf8 => kernel_rfl
  case hr8 => kernel_rfl
  case hQ8 => exact fun _ _ _ h => h
  case hS8 => assumption
  case hy8 => refine Or.inl ⟨by rfl, ?_⟩; intro w hSw; (try dsimp only at hSw); go_simp; (try with_reducible rfl)
  simp only [Act.put, List.setIfInBounds_toArray, List.set_cons_zero, List.set_cons_succ]
  refine wpAnyH_take (i := 9) (oi := ?oi9) (v := ?v9) ?hi9 ?hs9 ?hf9 ?hr9 ?hQ9 ?hy9 ?hS9 ?hrest9
  case hi9 => (conv => lhs; simp only [List.getElem?_toArray, List.getElem?_cons_zero, List.getElem?_cons_succ]); try exact rfl
  case hs9 => kernel_rfl
  case hf9 => kernel_rfl
  case hr9 => kernel_rfl
  case hQ9 => exact fun _ _ _ h => h
  case hS9 => assumption
  case hy9 => refine Or.inl ⟨by rfl, ?_⟩; intro w hSw; (try dsimp only at hSw); go_simp; (try with_reducible rfl)
  simp only [Act.put, List.setIfInBounds_toArray, List.set_cons_zero, List.set_cons_succ]
  refine wpAnyH_take (i := 10) (oi := ?oi10) (v := ?v10) ?hi10 ?hs10 ?hf10 ?hr10 ?hQ10 ?hy10 ?hS10 ?hrest10
  case hi10 => (conv => lhs; simp only [List.getElem?_toArray, List.getElem?_cons_zero, List.getElem?_cons_succ]); try exact rfl
  case hs10 => kernel_rfl
  case hf10 => kernel_rfl
  case hr10 => kernel_rfl
  case hQ10 => exact fun _ _ _ h => h
  case hS10 => assumption
  case hy10 => refine Or.inl ⟨by rfl, ?_⟩; intro w hSw; (try dsimp only at hSw); go_simp; (try with_reducible rfl)
  simp only [Act.put, List.setIfInBounds_toArray, List.set_cons_zero, List.set_cons_succ]
  refine wpAnyH_take (i := 11) (oi := ?oi11) (v := ?v11) ?hi11 ?hs11 ?hf11 ?hr11 ?hQ11 ?hy11 ?hS11 ?hrest11
  case hi11 => (conv => lhs; simp only [List.getElem?_toArray, List.getElem?_cons_zero, List.getElem?_cons_succ]); try exact rfl
  case hs11 => kernel_rfl
  case hf11 => kernel_rfl
  case hr11 => kernel_rfl
  case hQ11 => exact fun _ _ _ h => h
  case hS11 => assumption
  case hy11 => refine Or.inl ⟨by rfl, ?_⟩; intro w hSw; (try dsimp only at hSw); go_simp; (try with_reducible rfl)
  simp only [Act.put, List.setIfInBounds_toArray, List.set_cons_zero, List.set_cons_succ]
  refine wpAnyH_take (i := 12) (oi := ?oi12) (v := ?v12) ?hi12 ?hs12 ?hf12 ?hr12 ?hQ12 ?hy12 ?hS12 ?hrest12
  case hi12 => (conv => lhs; simp only [List.getElem?_toArray, List.getElem?_cons_zero, List.getElem?_cons_succ]); try exact rfl
  case hs12 => kernel_rfl
  case hf12 => kernel_rfl
  case hr12 => kernel_rfl
  case hQ12 => exact fun _ _ _ h => h
  case hS12 => assumption
  case hy12 => refine Or.inl ⟨by rfl, ?_⟩; intro w hSw; (try dsimp only at hSw); go_simp; (try with_reducible rfl)
  simp only [Act.put, List.setIfInBounds_toArray, List.set_cons_zero, List.set_cons_succ]
  refine wpAnyH_ready (rs := [5, 13]) (by kernel_rfl) (by simp) ?_
  refine AllReadyH.cons (o := ?oi13) ?hi13 (fun K hK => ?_) (AllReadyH.cons (o := ?oi14) ?hi14 (fun K hK => ?_) AllReadyH.nil)
  case hi13 => (conv => lhs; simp only [List.getElem?_toArray, List.getElem?_cons_zero, List.getElem?_cons_succ]); try exact rfl
  case hi14 => (conv => lhs; simp only [List.getElem?_toArray, List.getElem?_cons_zero, List.getElem?_cons_succ]); try exact rfl
  · go_simp
    refine hK.out _ _ hHeld (fun hHeld => ?_)
    clear hK K
    try simp only [Act.put, List.setIfInBounds_toArray, List.set_cons_zero, List.set_cons_succ]
    refine wpAnyH_ready (rs := [13]) (by kernel_rfl) (by simp) ?_
    refine AllReadyH.cons (o := ?oi15) ?hi15 (fun K hK => ?_) AllReadyH.nil
    case hi15 => (conv => lhs; simp only [List.getElem?_toArray, List.getElem?_cons_zero, List.getElem?_cons_succ]); try exact rfl
    go_simp
    refine hK.out _ _ ⟨ybA, z0A, z1A, z2A, z3A⟩ (fun hHeld15 => ?_)
    clear hK K
    try simp only [Act.put, List.setIfInBounds_toArray, List.set_cons_zero, List.set_cons_succ]
    refine wpAnyH_ready (rs := [14]) (by kernel_rfl) (by simp) ?_
    refine AllReadyH.cons (o := ?oi16) ?hi16 (fun K hK => ?_) AllReadyH.nil
    case hi16 => (conv => lhs; simp only [List.getElem?_toArray, List.getElem?_cons_zero, List.getElem?_cons_succ]); try exact rfl
    refine step_app _ (by rfl) _ _ 25 (by rfl) Try.el_ent oaA.out (by rfl) rdA (by rfl) (ES_cells [e]) (max_small (by omega)) (by omega) (by first | omega | (simp; done) | (simp; omega)) ?_
    intro v12 w12 own12 hG12 ho12 hB12
    obtain ⟨gq, cq, rfl⟩ := own_form1 own12 (by omega)
    have yb12 := hG12.cell ybA nea
    have z012 := hG12.cell z0A neab
    have z112 := hG12.cell z1A neab
    have z212 := hG12.cell z2A neab
    have z312 := hG12.cell z3A neab
    have Y12 := Lib.hid (YA.out.kept hG12 (.inr nea))
    have ya12 := hG12.cell yaA nea
    have f12 := own_frozen Y12.out k
    have nk : (⟨g0, k, none⟩ : Addr) ≠ ⟨g0, k + 1, none⟩ := fun e => by simp at e
    have nb0 : (⟨g0, k, none⟩ : Addr) ≠ ⟨b.g, 0, none⟩ := fun e => neb (by simp at e; rw [e.1])
    have nb1 : (⟨g0, k, none⟩ : Addr) ≠ ⟨b.g, 1, none⟩ := fun e => neb (by simp at e; rw [e.1])
    have nb2 : (⟨g0, k, none⟩ : Addr) ≠ ⟨b.g, 2, none⟩ := fun e => neb (by simp at e; rw [e.1])
    have nb3 : (⟨g0, k, none⟩ : Addr) ≠ ⟨b.g, 3, none⟩ := fun e => neb (by simp at e; rw [e.1])
    try simp only [Act.put, List.setIfInBounds_toArray, List.set_cons_zero, List.set_cons_succ]
    refine hK.out _ _ ⟨yb12, z012, z112, z212, z312⟩ (fun hHeld16 => ?_)
    clear hK K
    try simp only [Act.put, List.setIfInBounds_toArray, List.set_cons_zero, List.set_cons_succ]
    refine wpAnyH_take (i := 15) (oi := ?oi17) (v := ?v17) ?hi17 ?hs17 ?hf17 ?hr17 ?hQ17 ?hy17 ?hS17 ?hrest17
    case hi17 => (conv => lhs; simp only [List.getElem?_toArray, List.getElem?_cons_zero, List.getElem?_cons_succ]); try exact rfl
    case hs17 => kernel_rfl
    case hf17 => kernel_rfl
    case hr17 => kernel_rfl
    case hQ17 => exact fun _ _ _ h => h
    case hS17 => assumption
    case hy17 => refine Or.inl ⟨by rfl, ?_⟩; intro w hSw; (try dsimp only at hSw); go_simp; (try with_reducible rfl)
    simp only [Act.put, List.setIfInBounds_toArray, List.set_cons_zero, List.set_cons_succ]
    refine wpAnyH_ready (rs := [16]) (by kernel_rfl) (by simp) ?_
    refine AllReadyH.cons (o := ?oi18) ?hi18 (fun K hK => ?_) AllReadyH.nil
    case hi18 => (conv => lhs; simp only [List.getElem?_toArray, List.getElem?_cons_zero, List.getElem?_cons_succ]); try exact rfl
    go_simp
    refine hK.out _ _ ⟨cellS yb12 nk, cellS z012 nb0, cellS z112 nb1, cellS z212 nb2, cellS z312 nb3⟩ (fun hHeld18 => ?_)
    clear hK K
    try simp only [Act.put, List.setIfInBounds_toArray, List.set_cons_zero, List.set_cons_succ]
    refine wpAnyH_done (by kernel_rfl) ?_ _
    obtain ⟨q, hq⟩ : ∃ q : PgD, q = ⟨gq, cq, a.xs ++ [e], a.xs.length + 1, cq⟩ := ⟨_, rfl⟩
    have hqv : q.val = .slice (some ⟨gq, 0, none⟩) (a.xs.length + 1) cq := by rw [hq]; rfl
    have hqd : OwnD w12 lo q := by
      rw [hq]
      refine ⟨?_, by simp⟩
      simp only [List.length_append, List.length_cons, List.length_nil, ES_append]
      exact own12
    have HP12 := Lib.hid (HPA.out.set kL (by rw [ha]; exact hG12) hqd (by
      rw [hq, ha, sA]
      exact ho12.elim (fun h => .inl (by injection h)) (fun h => .inr (by injection h with h; have h2 : gq = w.heap.size + 1 := h.trans sA; simp only; omega))))
    have HP13 := Lib.hid (HP12.out.app Y12.out (show w12.grownBy (w12.setCell ⟨g0, k, none⟩ (.slice (some ⟨gq, 0, none⟩) (a.xs.length + 1) cq)) (some g0) from only_sc (grown_refl _ _) k _))
    have y := own_set Y12.out k q.val
    rw [PV_set, hqv] at y
    have Y13 := Lib.hid y
    have B13 := Lib.hid ((BA.trans hB12).setCell (p := ⟨g0, k, none⟩) lg0 (.slice (some ⟨gq, 0, none⟩) (a.xs.length + 1) cq))
    clear y ya yb z0 z1 z2 z3 yaA ybA z0A z1A z2A z3A yaB yb12 z012 z112 z212 z312 ya12 f12 own12 hG12 ho12 hB12 rdA BA HPA YA oaA Y12 HP12 hqd nk nb0 nb1 nb2 nb3
    generalize (w12.setCell ⟨g0, k, none⟩ (.slice (some ⟨gq, 0, none⟩) (a.xs.length + 1) cq)) = w13 at B13 HP13 Y13 ⊢
    have kb : k + 1 < (L.set k q).length := by rw [List.length_set]; omega
    have hbb : (L.set k q)[k + 1] = b := by rw [List.getElem_set_ne (by omega)]; exact hb
    have hbm : b ∈ L.set k q := by rw [← hbb]; exact List.getElem_mem _
    have hdb := HP13.out.1 b hbm
    have hsub := hdb.sub 1
    have hbc : b.xs.length ≤ b.c := by obtain ⟨_, _, _, h, _⟩ := own_some hdb.1; exact h
    have y13 := Y13.out.cellAt (k + 1) (by omega)
    rw [PV_get _ (k + 1) kb, hbb, vb] at y13
    have c1 : ¬ (b.c = 1) := by omega
    have c2 : (1 : Int) ≤ ((b.xs.length : Nat) : Int) := by omega
    have c3 : 1 ≤ b.xs.length := by omega
    have Hq := Lib.hid hq
    have hql : q.con = a.xs ++ b.xs.take 1 := by
      rw [hq]
      have : b.xs.take 1 = [e] := by
        rw [List.take_succ_eq_append_getElem z_b, List.take_zero, he]; rfl
      rw [this]
      exact List.take_of_length_le (by simp)
    clear hq hqv
    go_wp2_with fail
    refine (copyEnts_impl (some ⟨b.g, 4, none⟩) (b.xs.length - 1) (b.c - 1) (b.xs.drop 1) (by omega) w13 hsub).mono ?_
    rintro r w14 ⟨v14, rfl, own14, hb14⟩
    obtain ⟨gr, cr, rfl⟩ := own_form1 own14 (by omega)
    have l13 : lo ≤ w13.heap.size := by have := (Y13.out.lt g0 rfl).2; omega
    obtain ⟨rp, hrp⟩ : ∃ q : PgD, q = ⟨gr, cr, b.xs.drop 1, b.xs.length - 1, cr⟩ := ⟨_, rfl⟩
    have hrv : rp.val = .slice (some ⟨gr, 0, none⟩) (b.xs.length - 1) cr := by rw [hrp]; rfl
    have hrd : OwnD w14 lo rp := by
      rw [hrp]
      refine ⟨?_, by simp⟩
      simp only [List.length_drop]
      exact own_more own14 l13
    have HP14 := Lib.hid (HP13.out.set kb (gb_new hb14) hrd (.inr (by rw [hrp]; exact (own_some own14).1)))
    have Y14 := Lib.hid (own_below Y13.out hb14 (Nat.le_refl _))
    obtain ⟨u14, y14⟩ := own_cell1 Y14.out (k + 1) (by omega)
    have f14 := own_frozen Y14.out (k + 1)
    have HP15 := Lib.hid (HP14.out.app Y14.out (show w14.grownBy (w14.setCell ⟨g0, k + 1, none⟩ (.slice (some ⟨gr, 0, none⟩) (b.xs.length - 1) cr)) (some g0) from only_sc (grown_refl _ _) (k + 1) _))
    have y := own_set Y14.out (k + 1) rp.val
    rw [PV_set, hrv] at y
    have Y15 := Lib.hid y
    have B15 := Lib.hid ((B13.out.trans (hb14.mono l13)).setCell (p := ⟨g0, k + 1, none⟩) lg0 (.slice (some ⟨gr, 0, none⟩) (b.xs.length - 1) cr))
    have hrl : rp.con = b.xs.drop 1 := by rw [hrp]; exact List.take_of_length_le (by simp)
    have hsl : ((L.set k q).set (k + 1) rp).length = n := by rw [List.length_set, List.length_set]; exact hN
    clear y own14 hb14 hrd HP14 hsub hdb y13
    go_wp2
    go_ret
    have hpg := HP15.out.pages (g := g0) (c := c0) (by rw [hsl]; exact Y15.out)
    rw [hsl, List.map_set, List.map_set, hql, hrl, ← HM.out] at hpg
    exact ⟨_, n, c0, rfl, hpg, B15.out⟩
  · go_simp
    refine hK.out _ _ ⟨ybA, z0A, z1A, z2A, z3A⟩ (fun hHeld => ?_)
    clear hK K
    try simp only [Act.put, List.setIfInBounds_toArray, List.set_cons_zero, List.set_cons_succ]
    refine wpAnyH_ready (rs := [5]) (by kernel_rfl) (by simp) ?_
    refine AllReadyH.cons (o := ?oi19) ?hi19 (fun K hK => ?_) AllReadyH.nil
    case hi19 => (conv => lhs; simp only [List.getElem?_toArray, List.getElem?_cons_zero, List.getElem?_cons_succ]); try exact rfl
    go_simp
    refine hK.out _ _ ⟨ybA, z0A, z1A, z2A, z3A⟩ (fun hHeld19 => ?_)
    clear hK K
    try simp only [Act.put, List.setIfInBounds_toArray, List.set_cons_zero, List.set_cons_succ]
    refine wpAnyH_ready (rs := [14]) (by kernel_rfl) (by simp) ?_
    refine AllReadyH.cons (o := ?oi20) ?hi20 (fun K hK => ?_) AllReadyH.nil
    case hi20 => (conv => lhs; simp only [List.getElem?_toArray, List.getElem?_cons_zero, List.getElem?_cons_succ]); try exact rfl
    refine step_app _ (by rfl) _ _ 25 (by rfl) Try.el_ent oaA.out (by rfl) rdA (by rfl) (ES_cells [e]) (max_small (by omega)) (by omega) (by first | omega | (simp; done) | (simp; omega)) ?_
    intro v12 w12 own12 hG12 ho12 hB12
    obtain ⟨gq, cq, rfl⟩ := own_form1 own12 (by omega)
    have yb12 := hG12.cell ybA nea
    have z012 := hG12.cell z0A neab
    have z112 := hG12.cell z1A neab
    have z212 := hG12.cell z2A neab
    have z312 := hG12.cell z3A neab
    have Y12 := Lib.hid (YA.out.kept hG12 (.inr nea))
    have ya12 := hG12.cell yaA nea
    have f12 := own_frozen Y12.out k
    have nk : (⟨g0, k, none⟩ : Addr) ≠ ⟨g0, k + 1, none⟩ := fun e => by simp at e
    have nb0 : (⟨g0, k, none⟩ : Addr) ≠ ⟨b.g, 0, none⟩ := fun e => neb (by simp at e; rw [e.1])
    have nb1 : (⟨g0, k, none⟩ : Addr) ≠ ⟨b.g, 1, none⟩ := fun e => neb (by simp at e; rw [e.1])
    have nb2 : (⟨g0, k, none⟩ : Addr) ≠ ⟨b.g, 2, none⟩ := fun e => neb (by simp at e; rw [e.1])
    have nb3 : (⟨g0, k, none⟩ : Addr) ≠ ⟨b.g, 3, none⟩ := fun e => neb (by simp at e; rw [e.1])
    try simp only [Act.put, List.setIfInBounds_toArray, List.set_cons_zero, List.set_cons_succ]
    refine hK.out _ _ ⟨yb12, z012, z112, z212, z312⟩ (fun hHeld20 => ?_)
    clear hK K
    try simp only [Act.put, List.setIfInBounds_toArray, List.set_cons_zero, List.set_cons_succ]
    refine wpAnyH_take (i := 15) (oi := ?oi21) (v := ?v21) ?hi21 ?hs21 ?hf21 ?hr21 ?hQ21 ?hy21 ?hS21 ?hrest21
    case hi21 => (conv => lhs; simp only [List.getElem?_toArray, List.getElem?_cons_zero, List.getElem?_cons_succ]); try exact rfl
    case hs21 => kernel_rfl
    case hf21 => kernel_rfl
    case hr21 => kernel_rfl
    case hQ21 => exact fun _ _ _ h => h
    case hS21 => assumption
    case hy21 => refine Or.inl ⟨by rfl, ?_⟩; intro w hSw; (try dsimp only at hSw); go_simp; (try with_reducible rfl)
    simp only [Act.put, List.setIfInBounds_toArray, List.set_cons_zero, List.set_cons_succ]
    refine wpAnyH_ready (rs := [16]) (by kernel_rfl) (by simp) ?_
    refine AllReadyH.cons (o := ?oi22) ?hi22 (fun K hK => ?_) AllReadyH.nil
    case hi22 => (conv => lhs; simp only [List.getElem?_toArray, List.getElem?_cons_zero, List.getElem?_cons_succ]); try exact rfl
    go_simp
    refine hK.out _ _ ⟨cellS yb12 nk, cellS z012 nb0, cellS z112 nb1, cellS z212 nb2, cellS z312 nb3⟩ (fun hHeld22 => ?_)
    clear hK K
    try simp only [Act.put, List.setIfInBounds_toArray, List.set_cons_zero, List.set_cons_succ]
    refine wpAnyH_done (by kernel_rfl) ?_ _
    obtain ⟨q, hq⟩ : ∃ q : PgD, q = ⟨gq, cq, a.xs ++ [e], a.xs.length + 1, cq⟩ := ⟨_, rfl⟩
    have hqv : q.val = .slice (some ⟨gq, 0, none⟩) (a.xs.length + 1) cq := by rw [hq]; rfl
    have hqd : OwnD w12 lo q := by
      rw [hq]
      refine ⟨?_, by simp⟩
      simp only [List.length_append, List.length_cons, List.length_nil, ES_append]
      exact own12
    have HP12 := Lib.hid (HPA.out.set kL (by rw [ha]; exact hG12) hqd (by
      rw [hq, ha, sA]
      exact ho12.elim (fun h => .inl (by injection h)) (fun h => .inr (by injection h with h; have h2 : gq = w.heap.size + 1 := h.trans sA; simp only; omega))))
    have HP13 := Lib.hid (HP12.out.app Y12.out (show w12.grownBy (w12.setCell ⟨g0, k, none⟩ (.slice (some ⟨gq, 0, none⟩) (a.xs.length + 1) cq)) (some g0) from only_sc (grown_refl _ _) k _))
    have y := own_set Y12.out k q.val
    rw [PV_set, hqv] at y
    have Y13 := Lib.hid y
    have B13 := Lib.hid ((BA.trans hB12).setCell (p := ⟨g0, k, none⟩) lg0 (.slice (some ⟨gq, 0, none⟩) (a.xs.length + 1) cq))
    clear y ya yb z0 z1 z2 z3 yaA ybA z0A z1A z2A z3A yaB yb12 z012 z112 z212 z312 ya12 f12 own12 hG12 ho12 hB12 rdA BA HPA YA oaA Y12 HP12 hqd nk nb0 nb1 nb2 nb3
    generalize (w12.setCell ⟨g0, k, none⟩ (.slice (some ⟨gq, 0, none⟩) (a.xs.length + 1) cq)) = w13 at B13 HP13 Y13 ⊢
    have kb : k + 1 < (L.set k q).length := by rw [List.length_set]; omega
    have hbb : (L.set k q)[k + 1] = b := by rw [List.getElem_set_ne (by omega)]; exact hb
    have hbm : b ∈ L.set k q := by rw [← hbb]; exact List.getElem_mem _
    have hdb := HP13.out.1 b hbm
    have hsub := hdb.sub 1
    have hbc : b.xs.length ≤ b.c := by obtain ⟨_, _, _, h, _⟩ := own_some hdb.1; exact h
    have y13 := Y13.out.cellAt (k + 1) (by omega)
    rw [PV_get _ (k + 1) kb, hbb, vb] at y13
    have c1 : ¬ (b.c = 1) := by omega
    have c2 : (1 : Int) ≤ ((b.xs.length : Nat) : Int) := by omega
    have c3 : 1 ≤ b.xs.length := by omega
    have Hq := Lib.hid hq
    have hql : q.con = a.xs ++ b.xs.take 1 := by
      rw [hq]
      have : b.xs.take 1 = [e] := by
        rw [List.take_succ_eq_append_getElem z_b, List.take_zero, he]; rfl
      rw [this]
      exact List.take_of_length_le (by simp)
    clear hq hqv
    go_wp2_with fail
    refine (copyEnts_impl (some ⟨b.g, 4, none⟩) (b.xs.length - 1) (b.c - 1) (b.xs.drop 1) (by omega) w13 hsub).mono ?_
    rintro r w14 ⟨v14, rfl, own14, hb14⟩
    obtain ⟨gr, cr, rfl⟩ := own_form1 own14 (by omega)
    have l13 : lo ≤ w13.heap.size := by have := (Y13.out.lt g0 rfl).2; omega
    obtain ⟨rp, hrp⟩ : ∃ q : PgD, q = ⟨gr, cr, b.xs.drop 1, b.xs.length - 1, cr⟩ := ⟨_, rfl⟩
    have hrv : rp.val = .slice (some ⟨gr, 0, none⟩) (b.xs.length - 1) cr := by rw [hrp]; rfl
    have hrd : OwnD w14 lo rp := by
      rw [hrp]
      refine ⟨?_, by simp⟩
      simp only [List.length_drop]
      exact own_more own14 l13
    have HP14 := Lib.hid (HP13.out.set kb (gb_new hb14) hrd (.inr (by rw [hrp]; exact (own_some own14).1)))
    have Y14 := Lib.hid (own_below Y13.out hb14 (Nat.le_refl _))
    obtain ⟨u14, y14⟩ := own_cell1 Y14.out (k + 1) (by omega)
    have f14 := own_frozen Y14.out (k + 1)
    have HP15 := Lib.hid (HP14.out.app Y14.out (show w14.grownBy (w14.setCell ⟨g0, k + 1, none⟩ (.slice (some ⟨gr, 0, none⟩) (b.xs.length - 1) cr)) (some g0) from only_sc (grown_refl _ _) (k + 1) _))
    have y := own_set Y14.out (k + 1) rp.val
    rw [PV_set, hrv] at y
    have Y15 := Lib.hid y
    have B15 := Lib.hid ((B13.out.trans (hb14.mono l13)).setCell (p := ⟨g0, k + 1, none⟩) lg0 (.slice (some ⟨gr, 0, none⟩) (b.xs.length - 1) cr))
    have hrl : rp.con = b.xs.drop 1 := by rw [hrp]; exact List.take_of_length_le (by simp)
    have hsl : ((L.set k q).set (k + 1) rp).length = n := by rw [List.length_set, List.length_set]; exact hN
    clear y own14 hb14 hrd HP14 hsub hdb y13
    go_wp2
    go_ret
    have hpg := HP15.out.pages (g := g0) (c := c0) (by rw [hsl]; exact Y15.out)
    rw [hsl, List.map_set, List.map_set, hql, hrl, ← HM.out] at hpg
    exact ⟨_, n, c0, rfl, hpg, B15.out⟩

end Go.Proofs.Ytlnjgpekgnkakaa
