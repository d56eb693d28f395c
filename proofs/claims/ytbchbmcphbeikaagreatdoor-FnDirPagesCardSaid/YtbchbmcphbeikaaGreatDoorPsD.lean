/- The reference's l18Fill: pages of one's own, one of which may have too few, are few and small pages of one's own. -/
import Derived.Test.YtbchbmcphbeikaaGreatDoorPsA
import Derived.Test.YtbchbmcphbeikaaGreatDoorChg
import Derived.Test.YtbchbmcphbeikaaGreatDoorDirK
import Derived.Test.YtbchbmcphbeikaaGreatDoorPsC2
import Derived.Test.YtbchbmcphbeikaaGreatDoorPgMnd
import Derived.Deep.RegionHeld3
namespace Go.Proofs.YtbchbmcphbeikaaGreatDoor
open Go Go.RowKit

theorem mem3_nw {G P : (Nat) → (World) → Prop} {R : Prop} (use : (∀ (x0 : Nat) (x1 : World), P x0 x1 → G x0 x1) → R) (key : ∀ (x0 : Nat) (x1 : World), P x0 x1 → G x0 x1) : R := use key
theorem mem3_w {G P : (World) → Prop} {R : Prop} (use : (∀ (x0 : World), P x0 → G x0) → R) (key : ∀ (x0 : World), P x0 → G x0) : R := use key
theorem mem3_nnnw {G P : (Nat) → (Nat) → (Nat) → (World) → Prop} {R : Prop} (use : (∀ (x0 : Nat) (x1 : Nat) (x2 : Nat) (x3 : World), P x0 x1 x2 x3 → G x0 x1 x2 x3) → R) (key : ∀ (x0 : Nat) (x1 : Nat) (x2 : Nat) (x3 : World), P x0 x1 x2 x3 → G x0 x1 x2 x3) : R := use key
theorem mem3_nnnnnw {G P : (Nat) → (Nat) → (Nat) → (Nat) → (Nat) → (World) → Prop} {R : Prop} (use : (∀ (x0 : Nat) (x1 : Nat) (x2 : Nat) (x3 : Nat) (x4 : Nat) (x5 : World), P x0 x1 x2 x3 x4 x5 → G x0 x1 x2 x3 x4 x5) → R) (key : ∀ (x0 : Nat) (x1 : Nat) (x2 : Nat) (x3 : Nat) (x4 : Nat) (x5 : World), P x0 x1 x2 x3 x4 x5 → G x0 x1 x2 x3 x4 x5) : R := use key
theorem mem3_nnw {G P : (Nat) → (Nat) → (World) → Prop} {R : Prop} (use : (∀ (x0 : Nat) (x1 : Nat) (x2 : World), P x0 x1 x2 → G x0 x1 x2) → R) (key : ∀ (x0 : Nat) (x1 : Nat) (x2 : World), P x0 x1 x2 → G x0 x1 x2) : R := use key
theorem mem3_nnnnw {G P : (Nat) → (Nat) → (Nat) → (Nat) → (World) → Prop} {R : Prop} (use : (∀ (x0 : Nat) (x1 : Nat) (x2 : Nat) (x3 : Nat) (x4 : World), P x0 x1 x2 x3 x4 → G x0 x1 x2 x3 x4) → R) (key : ∀ (x0 : Nat) (x1 : Nat) (x2 : Nat) (x3 : Nat) (x4 : World), P x0 x1 x2 x3 x4 → G x0 x1 x2 x3 x4) : R := use key
theorem mem3_nnnnnnw {G P : (Nat) → (Nat) → (Nat) → (Nat) → (Nat) → (Nat) → (World) → Prop} {R : Prop} (use : (∀ (x0 : Nat) (x1 : Nat) (x2 : Nat) (x3 : Nat) (x4 : Nat) (x5 : Nat) (x6 : World), P x0 x1 x2 x3 x4 x5 x6 → G x0 x1 x2 x3 x4 x5 x6) → R) (key : ∀ (x0 : Nat) (x1 : Nat) (x2 : Nat) (x3 : Nat) (x4 : Nat) (x5 : Nat) (x6 : World), P x0 x1 x2 x3 x4 x5 x6 → G x0 x1 x2 x3 x4 x5 x6) : R := use key
/-- Pages all of which are shown, none of them empty, none of them long. -/
def FzL (N : Nat) (L : List PgD) : Prop := ∀ p ∈ L, full p ∧ 1 ≤ p.xs.length ∧ p.xs.length ≤ 5 ∧ ∀ x ∈ p.xs, x.s.size ≤ N
theorem FzL.sm {N : Nat} {L : List PgD} (h : FzL N L) (hl : L.length ≤ 9) : SmL N L := ⟨hl, fun p hp => by
  obtain ⟨h1, h2, h3, h4⟩ := h p hp
  rw [full_con h1]; exact ⟨h2, h3, h4⟩⟩
theorem FzL.set {N k : Nat} {L : List PgD} {q : PgD} (h : FzL N L) (hq : full q ∧ 1 ≤ q.xs.length ∧ q.xs.length ≤ 5 ∧ ∀ x ∈ q.xs, x.s.size ≤ N) : FzL N (L.set k q) := fun p hp => by
  rcases List.mem_or_eq_of_mem_set hp with h1 | rfl
  · exact h p h1
  · exact hq
theorem FzL.sub {N : Nat} {L M : List PgD} (h : FzL N L) (hs : M.Sublist L) : FzL N M := fun p hp => h p (hs.subset hp)
theorem FzL.f {N : Nat} {L : List PgD} (h : FzL N L) : ∀ p ∈ L, full p := fun p hp => (h p hp).1
def FillOut (N lo : Nat) (r : Ending) (w' : World) : Prop := ∃ (v : Value) (M : List PgD), r = .returned v ∧ OwnP w' lo M ∧ w'.ownsRow lo 30 1 v M.length (PV M) ∧ SmL N M
theorem fillOut_end {N lo m : Nat} {v : Value} {M : List PgD} {w' : World} (h1 : OwnP w' lo M) (hm : M.length = m) (h2 : w'.ownsRow lo 30 1 v m (PV M)) (h3 : SmL N M) : FillOut N lo (.returned v) w' := ⟨v, M, rfl, h1, by rw [hm]; exact h2, h3⟩
theorem own_lit1 (w : World) (a b c d : Value) (e : TypeId) (base : Nat) (hb : base ≤ w.heap.size) : (w.alloc (.cells #[a, b, c, d] e)).ownsRow base e 4 (.slice (some ⟨w.heap.size, 0, none⟩) 1 1) 1 [a, b, c, d] :=
  own_more (World.ownsRow_lit (e := e) (size := 4) w #[a, b, c, d] 1 (Nat.le_refl _) (by unfold maxLen; omega) rfl) hb

set_option maxRecDepth 100000 in
set_option maxHeartbeats 4000000 in
theorem fill_3a (N lo g0 n c0 k : Nat) (L : List PgD) (w : World) (hN : L.length = n) (h8 : n ≤ 8) (_hk : k < n) (hz : FzL N L) (HO : OwnP w lo L) (HY : w.ownsRow lo 30 1 (.slice (some ⟨g0, 0, none⟩) n c0) n (PV L))
    (hc : k + 1 < n) (h1 : ∀ (h : k < L.length), L[k].xs.length = 1) (h2 : ∀ (h : k + 1 < L.length), ¬ 2 < L[k + 1].xs.length) (k0 : k = 0) :
    Calls Tryz.prog 91 #[.slice (some ⟨g0, 0, none⟩) n c0, .int .i64 k] w fun r w' => FillOut N lo r w' ∧ Below lo w w' := by
  have hf := hz.f
  have hO := Lib.hid HO
  have hY := Lib.hid HY
  have hZ := Lib.hid hz
  have hlo : lo ≤ w.heap.size := by have := HY.lt g0 rfl; omega
  have lg0 := (HY.lt g0 rfl).1
  have lg1 := (HY.lt g0 rfl).2
  have kL : k < L.length := by omega
  have q0 : (0 : Int) ≤ (k : Int) := by omega
  have q1 : (k : Int) < (n : Int) := by omega
  obtain ⟨a, ha, ma, da, va, ya, ca, nea⟩ := pgf HO HY hf (k := k) (kL)
  have oa := Lib.hid da.1
  obtain ⟨fa, za, la, na⟩ := hz _ ma
  have Na := Lib.hid na
  clear na
  have a1 : a.xs.length = 1 := by rw [← ha]; exact h1 kL
  have e0 : ((n : Int) == 1) = false := beq_eq_false_iff_ne.2 (by omega)
  have e1 : (((a.xs.length : Nat) : Int) == 0) = false := beq_eq_false_iff_ne.2 (by omega)
  have e2 : ¬ (((a.xs.length : Nat) : Int) ≥ 2) := by omega
  have e3 : ¬ ((2 : Int) ≤ ((a.xs.length : Nat) : Int)) := by omega
  have a2 : a.xs.length ≤ 1 := by omega
  clear a1
  have bL : k + 1 < L.length := by omega
  obtain ⟨b, hb, mb, db, vb, yb, cb, neb⟩ := pgf HO HY hf (k := k + 1) (bL)
  have ob := Lib.hid db.1
  obtain ⟨fb, zb, lb, nb⟩ := hz _ mb
  have Nb := Lib.hid nb
  clear nb
  have b2 : ¬ 2 < b.xs.length := by have := h2 (by omega); rw [hb] at this; exact this
  obtain ⟨i, hi⟩ : ∃ i, i = k + 1 := ⟨_, rfl⟩
  rw [← hi] at yb
  have wi : IntKind.i64.wrap ((k : Int) + 1) = (i : Int) := by rw [IntKind.wrap_i64]; omega
  have q2 : (0 : Int) ≤ (i : Int) := by omega
  have q3 : (i : Int) < (n : Int) := by omega
  have q5 : ¬ (((b.xs.length : Nat) : Int) > 2) := by omega
  have q6 : ¬ ((2 : Int) < ((b.xs.length : Nat) : Int)) := by omega
  have nki : k ≠ i := by omega
  have din : i < n := by omega
  have r7 : ¬ ((k : Int) > 0) := by omega
  have r8 : ¬ ((0 : Int) < (k : Int)) := by omega
  clear k0
  clear HO HY hz hf h1 h2 ha hb va vb hi
  go_enter Tryz.func91, Tryz.ntmps91
  go_wp2_with fail
  refine wp_region_held_drew (S := fun w' => w'.cell? ⟨g0, i, none⟩ = some (.slice (some ⟨b.g, 0, none⟩) b.xs.length b.c)) (by kernel_rfl) (by exact yb) (fun hHeld => ?_)
  clear hHeld
  refine foldH ?_
  intro r hr0
  have bw : Below w.heap.size w r := by rw [hr0]; exact (bel0 w).drew
  clear hr0
  apply mem3_nnnnnw (P := fun aLa bRa bRb cRa cRb q => Below w.heap.size w q ∧ q.ownsRow w.heap.size 40 4 (.slice (some ⟨bRb, 0, none⟩) (a.xs.length + b.xs.length) cRb) (a.xs.length + b.xs.length) (ES a.xs ++ ES b.xs))
  case use =>
   intro key_c3_2_6_7_13
   apply mem3_nnnw (P := fun aLa bRa cRa q => Below w.heap.size w q ∧ q.ownsRow w.heap.size 40 4 (.slice (some ⟨bRa, 0, none⟩) (a.xs.length) cRa) (a.xs.length) (ES a.xs))
   case use =>
    intro key_c3_2_6_7
    apply mem3_nw (P := fun aLa q => Below w.heap.size w q ∧ q.ownsRow w.heap.size 40 4 (.slice (some ⟨aLa, 0, none⟩) (0) 0) (0) ([]))
    case use =>
     intro key_c3_2_6
     apply mem3_w (P := fun  q => Below w.heap.size w q)
     case use =>
      intro key_c3_6
      apply mem3_nw (P := fun aLa q => Below w.heap.size w q ∧ q.ownsRow w.heap.size 40 4 (.slice (some ⟨aLa, 0, none⟩) (0) 0) (0) ([]))
      case use =>
       intro key_c3_2
       refine wpAnyH_take (i := 0) (oi := ?oi1001) (v := ?v1001) ?hi1001 ?hs1001 ?hf1001 ?hr1001 ?hQ1001 ?hy1001 ?hS1001 ?hrest1001
       case hi1001 => (conv => lhs; simp only [List.getElem?_toArray, List.getElem?_cons_zero]); try exact rfl
       case hs1001 => kernel_rfl
       case hf1001 => kernel_rfl
       case hr1001 => kernel_rfl
       case hQ1001 => exact fun _ _ _ h => h
       case hS1001 => exact keep1 bw yb
       case hy1001 => refine Or.inl ⟨by rfl, ?_⟩; intro w hSw; (try dsimp only at hSw); go_simp; (try with_reducible rfl)
       simp only [Act.put, List.setIfInBounds_toArray, List.set_cons_zero, List.set_cons_succ]
       refine wpAnyH_take (i := 1) (oi := ?oi1002) (v := ?v1002) ?hi1002 ?hs1002 ?hf1002 ?hr1002 ?hQ1002 ?hy1002 ?hS1002 ?hrest1002
       case hi1002 => (conv => lhs; simp only [List.getElem?_toArray, List.getElem?_cons_zero, List.getElem?_cons_succ]); try exact rfl
       case hs1002 => kernel_rfl
       case hf1002 => kernel_rfl
       case hr1002 => kernel_rfl
       case hQ1002 => exact fun _ _ _ h => h
       case hS1002 => exact keep1 bw yb
       case hy1002 => refine Or.inl ⟨by rfl, ?_⟩; intro w hSw; (try dsimp only at hSw); go_simp; (try with_reducible rfl)
       simp only [Act.put, List.setIfInBounds_toArray, List.set_cons_zero, List.set_cons_succ]
       refine wpAnyH_take (i := 3) (oi := ?oi1003) (v := ?v1003) ?hi1003 ?hs1003 ?hf1003 ?hr1003 ?hQ1003 ?hy1003 ?hS1003 ?hrest1003
       case hi1003 => (conv => lhs; simp only [List.getElem?_toArray, List.getElem?_cons_zero, List.getElem?_cons_succ]); try exact rfl
       case hs1003 => kernel_rfl
       case hf1003 => kernel_rfl
       case hr1003 => kernel_rfl
       case hQ1003 => exact fun _ _ _ h => h
       case hS1003 => exact keep1 bw yb
       case hy1003 => refine Or.inl ⟨by rfl, ?_⟩; intro w hSw; (try dsimp only at hSw); go_simp; (try with_reducible rfl)
       simp only [Act.put, List.setIfInBounds_toArray, List.set_cons_zero, List.set_cons_succ]
       refine wpAnyH_take (i := 4) (oi := ?oi1004) (v := ?v1004) ?hi1004 ?hs1004 ?hf1004 ?hr1004 ?hQ1004 ?hy1004 ?hS1004 ?hrest1004
       case hi1004 => (conv => lhs; simp only [List.getElem?_toArray, List.getElem?_cons_zero, List.getElem?_cons_succ]); try exact rfl
       case hs1004 => kernel_rfl
       case hf1004 => kernel_rfl
       case hr1004 => kernel_rfl
       case hQ1004 => exact fun _ _ _ h => h
       case hS1004 => exact keep1 bw yb
       case hy1004 => refine Or.inl ⟨by rfl, ?_⟩; intro w hSw; (try dsimp only at hSw); go_simp; (try with_reducible rfl)
       simp only [Act.put, List.setIfInBounds_toArray, List.set_cons_zero, List.set_cons_succ]
       refine wpAnyH_take (i := 5) (oi := ?oi1005) (v := ?v1005) ?hi1005 ?hs1005 ?hf1005 ?hr1005 ?hQ1005 ?hy1005 ?hS1005 ?hrest1005
       case hi1005 => (conv => lhs; simp only [List.getElem?_toArray, List.getElem?_cons_zero, List.getElem?_cons_succ]); try exact rfl
       case hs1005 => kernel_rfl
       case hf1005 => kernel_rfl
       case hr1005 => kernel_rfl
       case hQ1005 => exact fun _ _ _ h => h
       case hS1005 => exact keep1 bw yb
       case hy1005 => refine Or.inl ⟨by rfl, ?_⟩; intro w hSw; (try dsimp only at hSw); go_simp; (try with_reducible rfl)
       simp only [Act.put, List.setIfInBounds_toArray, List.set_cons_zero, List.set_cons_succ]
       refine wpAnyH_take (i := 8) (oi := ?oi1006) (v := ?v1006) ?hi1006 ?hs1006 ?hf1006 ?hr1006 ?hQ1006 ?hy1006 ?hS1006 ?hrest1006
       case hi1006 => (conv => lhs; simp only [List.getElem?_toArray, List.getElem?_cons_zero, List.getElem?_cons_succ]); try exact rfl
       case hs1006 => kernel_rfl
       case hf1006 => kernel_rfl
       case hr1006 => kernel_rfl
       case hQ1006 => exact fun _ _ _ h => h
       case hS1006 => exact keep1 bw yb
       case hy1006 => refine Or.inl ⟨by rfl, ?_⟩; intro w hSw; (try dsimp only at hSw); go_simp; (try with_reducible rfl)
       simp only [Act.put, List.setIfInBounds_toArray, List.set_cons_zero, List.set_cons_succ]
       refine wpAnyH_take (i := 9) (oi := ?oi1007) (v := ?v1007) ?hi1007 ?hs1007 ?hf1007 ?hr1007 ?hQ1007 ?hy1007 ?hS1007 ?hrest1007
       case hi1007 => (conv => lhs; simp only [List.getElem?_toArray, List.getElem?_cons_zero, List.getElem?_cons_succ]); try exact rfl
       case hs1007 => kernel_rfl
       case hf1007 => kernel_rfl
       case hr1007 => kernel_rfl
       case hQ1007 => exact fun _ _ _ h => h
       case hS1007 => exact keep1 bw yb
       case hy1007 => refine Or.inl ⟨by rfl, ?_⟩; intro w hSw; (try dsimp only at hSw); go_simp; (try with_reducible rfl)
       simp only [Act.put, List.setIfInBounds_toArray, List.set_cons_zero, List.set_cons_succ]
       refine wpAnyH_take (i := 10) (oi := ?oi1008) (v := ?v1008) ?hi1008 ?hs1008 ?hf1008 ?hr1008 ?hQ1008 ?hy1008 ?hS1008 ?hrest1008
       case hi1008 => (conv => lhs; simp only [List.getElem?_toArray, List.getElem?_cons_zero, List.getElem?_cons_succ]); try exact rfl
       case hs1008 => kernel_rfl
       case hf1008 => kernel_rfl
       case hr1008 => kernel_rfl
       case hQ1008 => exact fun _ _ _ h => h
       case hS1008 => exact keep1 bw yb
       case hy1008 => refine Or.inl ⟨by rfl, ?_⟩; intro w hSw; (try dsimp only at hSw); go_simp; (try with_reducible rfl)
       simp only [Act.put, List.setIfInBounds_toArray, List.set_cons_zero, List.set_cons_succ]
       refine wpAnyH_take (i := 11) (oi := ?oi1009) (v := ?v1009) ?hi1009 ?hs1009 ?hf1009 ?hr1009 ?hQ1009 ?hy1009 ?hS1009 ?hrest1009
       case hi1009 => (conv => lhs; simp only [List.getElem?_toArray, List.getElem?_cons_zero, List.getElem?_cons_succ]); try exact rfl
       case hs1009 => kernel_rfl
       case hf1009 => kernel_rfl
       case hr1009 => kernel_rfl
       case hQ1009 => exact fun _ _ _ h => h
       case hS1009 => exact keep1 bw yb
       case hy1009 => refine Or.inl ⟨by rfl, ?_⟩; intro w hSw; (try dsimp only at hSw); go_simp; (try with_reducible rfl)
       simp only [Act.put, List.setIfInBounds_toArray, List.set_cons_zero, List.set_cons_succ]
       refine wpAnyH_take (i := 12) (oi := ?oi1010) (v := ?v1010) ?hi1010 ?hs1010 ?hf1010 ?hr1010 ?hQ1010 ?hy1010 ?hS1010 ?hrest1010
       case hi1010 => (conv => lhs; simp only [List.getElem?_toArray, List.getElem?_cons_zero, List.getElem?_cons_succ]); try exact rfl
       case hs1010 => kernel_rfl
       case hf1010 => kernel_rfl
       case hr1010 => kernel_rfl
       case hQ1010 => exact fun _ _ _ h => h
       case hS1010 => exact keep1 bw yb
       case hy1010 => refine Or.inl ⟨by rfl, ?_⟩; intro w hSw; (try dsimp only at hSw); go_simp; (try with_reducible rfl)
       simp only [Act.put, List.setIfInBounds_toArray, List.set_cons_zero, List.set_cons_succ]
       refine wpAnyH_ready (rs := [2, 6]) (by kernel_rfl) (by simp) ?_
       refine AllReadyH.cons (o := ?oi1011) ?hi1011 (fun K hK => ?br1011) (AllReadyH.cons (o := ?oi1012) ?hi1012 (fun K hK => ?br1012) AllReadyH.nil)
       case hi1011 => (conv => lhs; simp only [List.getElem?_toArray, List.getElem?_cons_zero, List.getElem?_cons_succ]); try exact rfl
       case hi1012 => (conv => lhs; simp only [List.getElem?_toArray, List.getElem?_cons_zero, List.getElem?_cons_succ]); try exact rfl
       case br1011 =>
        go_simp
        refine hK.out _ _ (by exact keep1 (belA bw (.cells #[] 40)) yb) (fun _ => ?_)
        clear hK K
        try simp only [Act.put, List.setIfInBounds_toArray, List.set_cons_zero, List.set_cons_succ]
        refine foldH ?_
        intro q hq
        obtain ⟨aLa, ha⟩ : ∃ g, r.heap.size = g := ⟨_, rfl⟩
        rw [ha]
        have bw2 : Below w.heap.size w q := by rw [hq]; exact belA bw _
        have oLa2 : q.ownsRow w.heap.size 40 4 (.slice (some ⟨aLa, 0, none⟩) (0) 0) (0) ([]) := by rw [hq, ← ha]; exact own_lit0 _ _ _ _ bw.size
        exact key_c3_2 aLa q ⟨bw2, oLa2⟩
       case br1012 =>
        have x_0 := keep1 bw ya
        go_simp
        refine hK.out _ _ (by exact keep1 bw yb) (fun _ => ?_)
        clear hK K
        try simp only [Act.put, List.setIfInBounds_toArray, List.set_cons_zero, List.set_cons_succ]
        have bw2 := bw
        exact key_c3_6  r bw2
      case key =>
       rintro aLa r ⟨bw, oLa⟩
       try dsimp only
       refine wpAnyH_ready (rs := [6]) (by kernel_rfl) (by simp) ?_
       refine AllReadyH.cons (o := ?oi1013) ?hi1013 (fun K hK => ?br1013) AllReadyH.nil
       case hi1013 => (conv => lhs; simp only [List.getElem?_toArray, List.getElem?_cons_zero, List.getElem?_cons_succ]); try exact rfl
       case br1013 =>
        have x_0 := keep1 bw ya
        go_simp
        refine hK.out _ _ (by exact keep1 bw yb) (fun _ => ?_)
        clear hK K
        try simp only [Act.put, List.setIfInBounds_toArray, List.set_cons_zero, List.set_cons_succ]
        have bw2 := bw
        have oLa2 := oLa
        exact key_c3_2_6 aLa r ⟨bw2, oLa2⟩
     case key =>
      rintro  r bw
      try dsimp only
      refine wpAnyH_ready (rs := [2]) (by kernel_rfl) (by simp) ?_
      refine AllReadyH.cons (o := ?oi1014) ?hi1014 (fun K hK => ?br1014) AllReadyH.nil
      case hi1014 => (conv => lhs; simp only [List.getElem?_toArray, List.getElem?_cons_zero, List.getElem?_cons_succ]); try exact rfl
      case br1014 =>
       go_simp
       refine hK.out _ _ (by exact keep1 (belA bw (.cells #[] 40)) yb) (fun _ => ?_)
       clear hK K
       try simp only [Act.put, List.setIfInBounds_toArray, List.set_cons_zero, List.set_cons_succ]
       refine foldH ?_
       intro q hq
       obtain ⟨aLa, ha⟩ : ∃ g, r.heap.size = g := ⟨_, rfl⟩
       rw [ha]
       have bw2 : Below w.heap.size w q := by rw [hq]; exact belA bw _
       have oLa2 : q.ownsRow w.heap.size 40 4 (.slice (some ⟨aLa, 0, none⟩) (0) 0) (0) ([]) := by rw [hq, ← ha]; exact own_lit0 _ _ _ _ bw.size
       exact key_c3_2_6 aLa q ⟨bw2, oLa2⟩
    case key =>
     rintro aLa r ⟨bw, oLa⟩
     try dsimp only
     refine wpAnyH_ready (rs := [7]) (by kernel_rfl) (by simp) ?_
     refine AllReadyH.cons (o := ?oi1015) ?hi1015 (fun K hK => ?br1015) AllReadyH.nil
     case hi1015 => (conv => lhs; simp only [List.getElem?_toArray, List.getElem?_cons_zero, List.getElem?_cons_succ]); try exact rfl
     case br1015 =>
      refine step_appX _ (by rfl) _ _ 30 (by rfl) Tryz.el_ent oLa (by rfl) (Reads.of_own (own_below oa.out bw (Nat.le_refl _))) (by rfl) (ES_cells _) (by unfold maxLen; omega) (by omega) bw.size ?_
      intro v q ow hg hor hb
      rw [Nat.zero_add, List.nil_append] at ow
      obtain ⟨bRa, cRa, rfl⟩ := own_form1 ow (by omega)
      have bw2 := bw.trans hb
      have oRa2 : q.ownsRow w.heap.size 40 4 (.slice (some ⟨bRa, 0, none⟩) (a.xs.length) cRa) (a.xs.length) (ES a.xs) := ow
      try simp only [Act.put, List.setIfInBounds_toArray, List.set_cons_zero, List.set_cons_succ]
      refine hK.out _ _ (by exact keep1 bw2 yb) (fun _ => ?_)
      clear hK K
      try simp only [Act.put, List.setIfInBounds_toArray, List.set_cons_zero, List.set_cons_succ]
      exact key_c3_2_6_7 aLa bRa cRa q ⟨bw2, oRa2⟩
   case key =>
    rintro aLa bRa cRa r ⟨bw, oRa⟩
    try dsimp only
    refine wpAnyH_ready (rs := [13]) (by kernel_rfl) (by simp) ?_
    refine AllReadyH.cons (o := ?oi1016) ?hi1016 (fun K hK => ?br1016) AllReadyH.nil
    case hi1016 => (conv => lhs; simp only [List.getElem?_toArray, List.getElem?_cons_zero, List.getElem?_cons_succ]); try exact rfl
    case br1016 =>
     refine step_appX _ (by rfl) _ _ 30 (by rfl) Tryz.el_ent oRa (by rfl) (Reads.of_own (own_below ob.out bw (Nat.le_refl _))) (by rfl) (ES_cells _) (by unfold maxLen; omega) (by omega) bw.size ?_
     intro v q ow hg hor hb
     obtain ⟨bRb, cRb, rfl⟩ := own_form1 ow (by omega)
     have bw2 := bw.trans hb
     have oRb2 : q.ownsRow w.heap.size 40 4 (.slice (some ⟨bRb, 0, none⟩) (a.xs.length + b.xs.length) cRb) (a.xs.length + b.xs.length) (ES a.xs ++ ES b.xs) := ow
     try simp only [Act.put, List.setIfInBounds_toArray, List.set_cons_zero, List.set_cons_succ]
     refine hK.out _ _ (by exact keep1 bw2 yb) (fun _ => ?_)
     clear hK K
     try simp only [Act.put, List.setIfInBounds_toArray, List.set_cons_zero, List.set_cons_succ]
     refine wpAnyH_take (i := 14) (oi := ?oi1017) (v := ?v1017) ?hi1017 ?hs1017 ?hf1017 ?hr1017 ?hQ1017 ?hy1017 ?hS1017 ?hrest1017
     case hi1017 => (conv => lhs; simp only [List.getElem?_toArray, List.getElem?_cons_zero, List.getElem?_cons_succ]); try exact rfl
     case hs1017 => kernel_rfl
     case hf1017 => kernel_rfl
     case hr1017 => kernel_rfl
     case hQ1017 => exact fun _ _ _ h => h
     case hS1017 => exact keep1 bw2 yb
     case hy1017 => refine Or.inl ⟨by rfl, ?_⟩; intro w hSw; (try dsimp only at hSw); go_simp; (try with_reducible rfl)
     simp only [Act.put, List.setIfInBounds_toArray, List.set_cons_zero, List.set_cons_succ]
     exact key_c3_2_6_7_13 aLa bRa bRb cRa cRb q ⟨bw2, oRb2⟩
  case key =>
   rintro aLa bRa bRb cRa cRb r ⟨bw, oRb⟩
   try dsimp only
   refine wpAnyH_ready (rs := [15]) (by kernel_rfl) (by simp) ?_
   refine AllReadyH.cons (o := ?oi1018) ?hi1018 (fun K hK => ?br1018) AllReadyH.nil
   case hi1018 => (conv => lhs; simp only [List.getElem?_toArray, List.getElem?_cons_zero, List.getElem?_cons_succ]); try exact rfl
   case br1018 =>
    have Yr := own_below hY.out bw (Nat.le_refl _)
    have x_0 := keep1 bw ya
    have f_0 := own_frozen Yr k
    go_simp
    refine hK.out _ _ (by exact cellS (keep1 bw yb) (fun e => nki (by injection e))) (fun _ => ?_)
    clear hK K
    try simp only [Act.put, List.setIfInBounds_toArray, List.set_cons_zero, List.set_cons_succ]
    refine wpAnyH_done (by kernel_rfl) ?_ _
    obtain ⟨q, hq⟩ : ∃ y : PgD, y = ⟨bRb, cRb, a.xs ++ b.xs, a.xs.length + b.xs.length, cRb⟩ := ⟨_, rfl⟩
    have hqv : q.val = .slice (some ⟨bRb, 0, none⟩) (a.xs.length + b.xs.length) cRb := by rw [hq]; rfl
    have hql : (a.xs ++ b.xs).length = a.xs.length + b.xs.length := by simp
    have hqd : OwnD r lo q := by
      rw [hq]
      refine ⟨?_, by simp only [hql]; exact Nat.le_refl _⟩
      simp only [hql]
      have h := own_more oRb hlo
      simp only [← ES_append] at h
      exact h
    have HP12 := hO.out.set (w' := r) (q := q) kL (gb_new bw) hqd (.inr (by rw [hq]; exact (own_some oRb).1))
    have HP13 := Lib.hid (HP12.app Yr (show r.grownBy (r.setCell ⟨g0, k, none⟩ (.slice (some ⟨bRb, 0, none⟩) (a.xs.length + b.xs.length) cRb)) (some g0) from only_sc (grown_refl _ _) k _))
    have y := own_set Yr k q.val
    rw [PV_set, hqv] at y
    have Y13 := Lib.hid y
    have B13 := Lib.hid ((bw.mono hlo).setCell (p := ⟨g0, k, none⟩) lg0 (.slice (some ⟨bRb, 0, none⟩) (a.xs.length + b.xs.length) cRb))
    have hz13 := Lib.hid (hZ.out.set (k := k) (q := q) (by rw [hq]; exact ⟨⟨hql.symm, rfl⟩, by simp only [hql]; omega, by simp only [hql]; omega, fun x hx => (List.mem_append.1 hx).elim (Na.out x) (Nb.out x)⟩))
    have hsl : (L.set k q).length = n := by rw [List.length_set]; exact hN
    clear y bw Yr oRb HP12 hqd x_0 f_0 hq hqv hql
    generalize (r.setCell ⟨g0, k, none⟩ (.slice (some ⟨bRb, 0, none⟩) (a.xs.length + b.xs.length) cRb)) = w13 at B13 HP13 Y13 ⊢
    have l13 : lo ≤ w13.heap.size := by have := (Y13.out.lt g0 rfl).2; omega
    go_wp2_with fail
    refine (l18Without_any lo g0 n c0 (L.set k q) i din (by omega) w13 Y13.out).mono ?_
    rintro e w14 ⟨⟨v14, rfl, own14⟩, hb14⟩
    have hsub := cut_sub (L.set k q) i
    have HP14 := Lib.hid ((HP13.out.bl hb14).sub hsub)
    have hml : ((L.set k q).take i ++ (L.set k q).drop (i + 1)).length ≤ 9 := by have := hsub.length_le; omega
    have HS := Lib.hid ((hz13.out.sub hsub).sm hml)
    have own15 := own_more own14 l13
    have B14 := Lib.hid (B13.out.trans (hb14.mono l13))
    obtain ⟨m14, hm14⟩ : ∃ m, ((L.set k q).take i ++ (L.set k q).drop (i + 1)).length = m := ⟨_, rfl⟩
    rw [hm14] at own15
    have Own15 := Lib.hid own15
    clear own14 own15 hsub hml hb14
    go_wp2
    refine bodyPost_ret (v := v14) (by simp [results, Tryz.results91, go_sem]) rfl ⟨fillOut_end HP14.out hm14 Own15.out HS.out, B14.out⟩

set_option maxRecDepth 100000 in
set_option maxHeartbeats 4000000 in
theorem fill_3b (N lo g0 n c0 k : Nat) (L : List PgD) (w : World) (hN : L.length = n) (h8 : n ≤ 8) (_hk : k < n) (hz : FzL N L) (HO : OwnP w lo L) (HY : w.ownsRow lo 30 1 (.slice (some ⟨g0, 0, none⟩) n c0) n (PV L))
    (hc : k + 1 < n) (h1 : ∀ (h : k < L.length), L[k].xs.length = 1) (h2 : ∀ (h : k + 1 < L.length), ¬ 2 < L[k + 1].xs.length) (k0 : 0 < k) (h3 : ∀ (h : k - 1 < L.length), ¬ 2 < L[k - 1].xs.length) :
    Calls Tryz.prog 91 #[.slice (some ⟨g0, 0, none⟩) n c0, .int .i64 k] w fun r w' => FillOut N lo r w' ∧ Below lo w w' := by
  have hf := hz.f
  have hO := Lib.hid HO
  have hY := Lib.hid HY
  have hZ := Lib.hid hz
  have hlo : lo ≤ w.heap.size := by have := HY.lt g0 rfl; omega
  have lg0 := (HY.lt g0 rfl).1
  have lg1 := (HY.lt g0 rfl).2
  have kL : k < L.length := by omega
  have q0 : (0 : Int) ≤ (k : Int) := by omega
  have q1 : (k : Int) < (n : Int) := by omega
  obtain ⟨a, ha, ma, da, va, ya, ca, nea⟩ := pgf HO HY hf (k := k) (kL)
  have oa := Lib.hid da.1
  obtain ⟨fa, za, la, na⟩ := hz _ ma
  have Na := Lib.hid na
  clear na
  have a1 : a.xs.length = 1 := by rw [← ha]; exact h1 kL
  have e0 : ((n : Int) == 1) = false := beq_eq_false_iff_ne.2 (by omega)
  have e1 : (((a.xs.length : Nat) : Int) == 0) = false := beq_eq_false_iff_ne.2 (by omega)
  have e2 : ¬ (((a.xs.length : Nat) : Int) ≥ 2) := by omega
  have e3 : ¬ ((2 : Int) ≤ ((a.xs.length : Nat) : Int)) := by omega
  have a2 : a.xs.length ≤ 1 := by omega
  clear a1
  have bL : k + 1 < L.length := by omega
  obtain ⟨b, hb, mb, db, vb, yb, cb, neb⟩ := pgf HO HY hf (k := k + 1) (bL)
  have ob := Lib.hid db.1
  obtain ⟨fb, zb, lb, nb⟩ := hz _ mb
  have Nb := Lib.hid nb
  clear nb
  have b2 : ¬ 2 < b.xs.length := by have := h2 (by omega); rw [hb] at this; exact this
  obtain ⟨i, hi⟩ : ∃ i, i = k + 1 := ⟨_, rfl⟩
  rw [← hi] at yb
  have wi : IntKind.i64.wrap ((k : Int) + 1) = (i : Int) := by rw [IntKind.wrap_i64]; omega
  have q2 : (0 : Int) ≤ (i : Int) := by omega
  have q3 : (i : Int) < (n : Int) := by omega
  have q5 : ¬ (((b.xs.length : Nat) : Int) > 2) := by omega
  have q6 : ¬ ((2 : Int) < ((b.xs.length : Nat) : Int)) := by omega
  have nki : k ≠ i := by omega
  have din : i < n := by omega
  have pL : k - 1 < L.length := by omega
  obtain ⟨p, hp, mp, dp, vp, yp, cp, nep⟩ := pgf HO HY hf (k := k - 1) (pL)
  have op := Lib.hid dp.1
  obtain ⟨fp, zp, lp, np⟩ := hz _ mp
  have Np := Lib.hid np
  clear np
  have p2 : ¬ 2 < p.xs.length := by have := h3 (by omega); rw [hp] at this; exact this
  obtain ⟨j, hj⟩ : ∃ j, j = k - 1 := ⟨_, rfl⟩
  rw [← hj] at yp
  have wj : IntKind.i64.wrap ((k : Int) - 1) = (j : Int) := by rw [IntKind.wrap_i64]; omega
  have r7 : (k : Int) > 0 := by omega
  have r8 : (0 : Int) ≤ (j : Int) := by omega
  have r9 : (j : Int) < (n : Int) := by omega
  have ra : ¬ (((p.xs.length : Nat) : Int) > 2) := by omega
  have rb : ¬ ((2 : Int) < ((p.xs.length : Nat) : Int)) := by omega
  have rc : (0 : Int) < (k : Int) := by omega
  have njk : j ≠ k := by omega
  have jL : j < L.length := by omega
  clear hj hp h3 vp
  clear HO HY hz hf h1 h2 ha hb va vb hi
  go_enter Tryz.func91, Tryz.ntmps91
  go_wp2_with fail
  refine wp_region_held_drew (S := fun w' => w'.cell? ⟨g0, i, none⟩ = some (.slice (some ⟨b.g, 0, none⟩) b.xs.length b.c)) (by kernel_rfl) (by exact yb) (fun hHeld => ?_)
  clear hHeld
  refine foldH ?_
  intro r hr0
  have bw : Below w.heap.size w r := by rw [hr0]; exact (bel0 w).drew
  clear hr0
  apply mem3_nnnnnw (P := fun aLa bRa bRb cRa cRb q => Below w.heap.size w q ∧ q.ownsRow w.heap.size 40 4 (.slice (some ⟨bRb, 0, none⟩) (a.xs.length + b.xs.length) cRb) (a.xs.length + b.xs.length) (ES a.xs ++ ES b.xs))
  case use =>
   intro key_c3_2_6_7_13
   apply mem3_nnnw (P := fun aLa bRa cRa q => Below w.heap.size w q ∧ q.ownsRow w.heap.size 40 4 (.slice (some ⟨bRa, 0, none⟩) (a.xs.length) cRa) (a.xs.length) (ES a.xs))
   case use =>
    intro key_c3_2_6_7
    apply mem3_nw (P := fun aLa q => Below w.heap.size w q ∧ q.ownsRow w.heap.size 40 4 (.slice (some ⟨aLa, 0, none⟩) (0) 0) (0) ([]))
    case use =>
     intro key_c3_2_6
     apply mem3_w (P := fun  q => Below w.heap.size w q)
     case use =>
      intro key_c3_6
      apply mem3_nw (P := fun aLa q => Below w.heap.size w q ∧ q.ownsRow w.heap.size 40 4 (.slice (some ⟨aLa, 0, none⟩) (0) 0) (0) ([]))
      case use =>
       intro key_c3_2
       refine wpAnyH_take (i := 0) (oi := ?oi2001) (v := ?v2001) ?hi2001 ?hs2001 ?hf2001 ?hr2001 ?hQ2001 ?hy2001 ?hS2001 ?hrest2001
       case hi2001 => (conv => lhs; simp only [List.getElem?_toArray, List.getElem?_cons_zero]); try exact rfl
       case hs2001 => kernel_rfl
       case hf2001 => kernel_rfl
       case hr2001 => kernel_rfl
       case hQ2001 => exact fun _ _ _ h => h
       case hS2001 => exact keep1 bw yb
       case hy2001 => refine Or.inl ⟨by rfl, ?_⟩; intro w hSw; (try dsimp only at hSw); go_simp; (try with_reducible rfl)
       simp only [Act.put, List.setIfInBounds_toArray, List.set_cons_zero, List.set_cons_succ]
       refine wpAnyH_take (i := 1) (oi := ?oi2002) (v := ?v2002) ?hi2002 ?hs2002 ?hf2002 ?hr2002 ?hQ2002 ?hy2002 ?hS2002 ?hrest2002
       case hi2002 => (conv => lhs; simp only [List.getElem?_toArray, List.getElem?_cons_zero, List.getElem?_cons_succ]); try exact rfl
       case hs2002 => kernel_rfl
       case hf2002 => kernel_rfl
       case hr2002 => kernel_rfl
       case hQ2002 => exact fun _ _ _ h => h
       case hS2002 => exact keep1 bw yb
       case hy2002 => refine Or.inl ⟨by rfl, ?_⟩; intro w hSw; (try dsimp only at hSw); go_simp; (try with_reducible rfl)
       simp only [Act.put, List.setIfInBounds_toArray, List.set_cons_zero, List.set_cons_succ]
       refine wpAnyH_take (i := 3) (oi := ?oi2003) (v := ?v2003) ?hi2003 ?hs2003 ?hf2003 ?hr2003 ?hQ2003 ?hy2003 ?hS2003 ?hrest2003
       case hi2003 => (conv => lhs; simp only [List.getElem?_toArray, List.getElem?_cons_zero, List.getElem?_cons_succ]); try exact rfl
       case hs2003 => kernel_rfl
       case hf2003 => kernel_rfl
       case hr2003 => kernel_rfl
       case hQ2003 => exact fun _ _ _ h => h
       case hS2003 => exact keep1 bw yb
       case hy2003 => refine Or.inl ⟨by rfl, ?_⟩; intro w hSw; (try dsimp only at hSw); go_simp; (try with_reducible rfl)
       simp only [Act.put, List.setIfInBounds_toArray, List.set_cons_zero, List.set_cons_succ]
       refine wpAnyH_take (i := 4) (oi := ?oi2004) (v := ?v2004) ?hi2004 ?hs2004 ?hf2004 ?hr2004 ?hQ2004 ?hy2004 ?hS2004 ?hrest2004
       case hi2004 => (conv => lhs; simp only [List.getElem?_toArray, List.getElem?_cons_zero, List.getElem?_cons_succ]); try exact rfl
       case hs2004 => kernel_rfl
       case hf2004 => kernel_rfl
       case hr2004 => kernel_rfl
       case hQ2004 => exact fun _ _ _ h => h
       case hS2004 => exact keep1 bw yb
       case hy2004 => refine Or.inl ⟨by rfl, ?_⟩; intro w hSw; (try dsimp only at hSw); go_simp; (try with_reducible rfl)
       simp only [Act.put, List.setIfInBounds_toArray, List.set_cons_zero, List.set_cons_succ]
       refine wpAnyH_take (i := 5) (oi := ?oi2005) (v := ?v2005) ?hi2005 ?hs2005 ?hf2005 ?hr2005 ?hQ2005 ?hy2005 ?hS2005 ?hrest2005
       case hi2005 => (conv => lhs; simp only [List.getElem?_toArray, List.getElem?_cons_zero, List.getElem?_cons_succ]); try exact rfl
       case hs2005 => kernel_rfl
       case hf2005 => kernel_rfl
       case hr2005 => kernel_rfl
       case hQ2005 => exact fun _ _ _ h => h
       case hS2005 => exact keep1 bw yb
       case hy2005 => refine Or.inl ⟨by rfl, ?_⟩; intro w hSw; (try dsimp only at hSw); go_simp; (try with_reducible rfl)
       simp only [Act.put, List.setIfInBounds_toArray, List.set_cons_zero, List.set_cons_succ]
       refine wpAnyH_take (i := 8) (oi := ?oi2006) (v := ?v2006) ?hi2006 ?hs2006 ?hf2006 ?hr2006 ?hQ2006 ?hy2006 ?hS2006 ?hrest2006
       case hi2006 => (conv => lhs; simp only [List.getElem?_toArray, List.getElem?_cons_zero, List.getElem?_cons_succ]); try exact rfl
       case hs2006 => kernel_rfl
       case hf2006 => kernel_rfl
       case hr2006 => kernel_rfl
       case hQ2006 => exact fun _ _ _ h => h
       case hS2006 => exact keep1 bw yb
       case hy2006 => refine Or.inl ⟨by rfl, ?_⟩; intro w hSw; (try dsimp only at hSw); go_simp; (try with_reducible rfl)
       simp only [Act.put, List.setIfInBounds_toArray, List.set_cons_zero, List.set_cons_succ]
       refine wpAnyH_take (i := 9) (oi := ?oi2007) (v := ?v2007) ?hi2007 ?hs2007 ?hf2007 ?hr2007 ?hQ2007 ?hy2007 ?hS2007 ?hrest2007
       case hi2007 => (conv => lhs; simp only [List.getElem?_toArray, List.getElem?_cons_zero, List.getElem?_cons_succ]); try exact rfl
       case hs2007 => kernel_rfl
       case hf2007 => kernel_rfl
       case hr2007 => kernel_rfl
       case hQ2007 => exact fun _ _ _ h => h
       case hS2007 => exact keep1 bw yb
       case hy2007 => refine Or.inl ⟨by rfl, ?_⟩; intro w hSw; (try dsimp only at hSw); go_simp; (try with_reducible rfl)
       simp only [Act.put, List.setIfInBounds_toArray, List.set_cons_zero, List.set_cons_succ]
       refine wpAnyH_take (i := 10) (oi := ?oi2008) (v := ?v2008) ?hi2008 ?hs2008 ?hf2008 ?hr2008 ?hQ2008 ?hy2008 ?hS2008 ?hrest2008
       case hi2008 => (conv => lhs; simp only [List.getElem?_toArray, List.getElem?_cons_zero, List.getElem?_cons_succ]); try exact rfl
       case hs2008 => kernel_rfl
       case hf2008 => kernel_rfl
       case hr2008 => kernel_rfl
       case hQ2008 => exact fun _ _ _ h => h
       case hS2008 => exact keep1 bw yb
       case hy2008 => refine Or.inl ⟨by rfl, ?_⟩; intro w hSw; (try dsimp only at hSw); go_simp; (try with_reducible rfl)
       simp only [Act.put, List.setIfInBounds_toArray, List.set_cons_zero, List.set_cons_succ]
       refine wpAnyH_take (i := 11) (oi := ?oi2009) (v := ?v2009) ?hi2009 ?hs2009 ?hf2009 ?hr2009 ?hQ2009 ?hy2009 ?hS2009 ?hrest2009
       case hi2009 => (conv => lhs; simp only [List.getElem?_toArray, List.getElem?_cons_zero, List.getElem?_cons_succ]); try exact rfl
       case hs2009 => kernel_rfl
       case hf2009 => kernel_rfl
       case hr2009 => kernel_rfl
       case hQ2009 => exact fun _ _ _ h => h
       case hS2009 => exact keep1 bw yb
       case hy2009 => refine Or.inl ⟨by rfl, ?_⟩; intro w hSw; (try dsimp only at hSw); go_simp; (try with_reducible rfl)
       simp only [Act.put, List.setIfInBounds_toArray, List.set_cons_zero, List.set_cons_succ]
       refine wpAnyH_take (i := 12) (oi := ?oi2010) (v := ?v2010) ?hi2010 ?hs2010 ?hf2010 ?hr2010 ?hQ2010 ?hy2010 ?hS2010 ?hrest2010
       case hi2010 => (conv => lhs; simp only [List.getElem?_toArray, List.getElem?_cons_zero, List.getElem?_cons_succ]); try exact rfl
       case hs2010 => kernel_rfl
       case hf2010 => kernel_rfl
       case hr2010 => kernel_rfl
       case hQ2010 => exact fun _ _ _ h => h
       case hS2010 => exact keep1 bw yb
       case hy2010 => refine Or.inl ⟨by rfl, ?_⟩; intro w hSw; (try dsimp only at hSw); go_simp; (try with_reducible rfl)
       simp only [Act.put, List.setIfInBounds_toArray, List.set_cons_zero, List.set_cons_succ]
       refine wpAnyH_ready (rs := [2, 6]) (by kernel_rfl) (by simp) ?_
       refine AllReadyH.cons (o := ?oi2011) ?hi2011 (fun K hK => ?br2011) (AllReadyH.cons (o := ?oi2012) ?hi2012 (fun K hK => ?br2012) AllReadyH.nil)
       case hi2011 => (conv => lhs; simp only [List.getElem?_toArray, List.getElem?_cons_zero, List.getElem?_cons_succ]); try exact rfl
       case hi2012 => (conv => lhs; simp only [List.getElem?_toArray, List.getElem?_cons_zero, List.getElem?_cons_succ]); try exact rfl
       case br2011 =>
        go_simp
        refine hK.out _ _ (by exact keep1 (belA bw (.cells #[] 40)) yb) (fun _ => ?_)
        clear hK K
        try simp only [Act.put, List.setIfInBounds_toArray, List.set_cons_zero, List.set_cons_succ]
        refine foldH ?_
        intro q hq
        obtain ⟨aLa, ha⟩ : ∃ g, r.heap.size = g := ⟨_, rfl⟩
        rw [ha]
        have bw2 : Below w.heap.size w q := by rw [hq]; exact belA bw _
        have oLa2 : q.ownsRow w.heap.size 40 4 (.slice (some ⟨aLa, 0, none⟩) (0) 0) (0) ([]) := by rw [hq, ← ha]; exact own_lit0 _ _ _ _ bw.size
        exact key_c3_2 aLa q ⟨bw2, oLa2⟩
       case br2012 =>
        have x_0 := keep1 bw ya
        go_simp
        refine hK.out _ _ (by exact keep1 bw yb) (fun _ => ?_)
        clear hK K
        try simp only [Act.put, List.setIfInBounds_toArray, List.set_cons_zero, List.set_cons_succ]
        have bw2 := bw
        exact key_c3_6  r bw2
      case key =>
       rintro aLa r ⟨bw, oLa⟩
       try dsimp only
       refine wpAnyH_ready (rs := [6]) (by kernel_rfl) (by simp) ?_
       refine AllReadyH.cons (o := ?oi2013) ?hi2013 (fun K hK => ?br2013) AllReadyH.nil
       case hi2013 => (conv => lhs; simp only [List.getElem?_toArray, List.getElem?_cons_zero, List.getElem?_cons_succ]); try exact rfl
       case br2013 =>
        have x_0 := keep1 bw ya
        go_simp
        refine hK.out _ _ (by exact keep1 bw yb) (fun _ => ?_)
        clear hK K
        try simp only [Act.put, List.setIfInBounds_toArray, List.set_cons_zero, List.set_cons_succ]
        have bw2 := bw
        have oLa2 := oLa
        exact key_c3_2_6 aLa r ⟨bw2, oLa2⟩
     case key =>
      rintro  r bw
      try dsimp only
      refine wpAnyH_ready (rs := [2]) (by kernel_rfl) (by simp) ?_
      refine AllReadyH.cons (o := ?oi2014) ?hi2014 (fun K hK => ?br2014) AllReadyH.nil
      case hi2014 => (conv => lhs; simp only [List.getElem?_toArray, List.getElem?_cons_zero, List.getElem?_cons_succ]); try exact rfl
      case br2014 =>
       go_simp
       refine hK.out _ _ (by exact keep1 (belA bw (.cells #[] 40)) yb) (fun _ => ?_)
       clear hK K
       try simp only [Act.put, List.setIfInBounds_toArray, List.set_cons_zero, List.set_cons_succ]
       refine foldH ?_
       intro q hq
       obtain ⟨aLa, ha⟩ : ∃ g, r.heap.size = g := ⟨_, rfl⟩
       rw [ha]
       have bw2 : Below w.heap.size w q := by rw [hq]; exact belA bw _
       have oLa2 : q.ownsRow w.heap.size 40 4 (.slice (some ⟨aLa, 0, none⟩) (0) 0) (0) ([]) := by rw [hq, ← ha]; exact own_lit0 _ _ _ _ bw.size
       exact key_c3_2_6 aLa q ⟨bw2, oLa2⟩
    case key =>
     rintro aLa r ⟨bw, oLa⟩
     try dsimp only
     refine wpAnyH_ready (rs := [7]) (by kernel_rfl) (by simp) ?_
     refine AllReadyH.cons (o := ?oi2015) ?hi2015 (fun K hK => ?br2015) AllReadyH.nil
     case hi2015 => (conv => lhs; simp only [List.getElem?_toArray, List.getElem?_cons_zero, List.getElem?_cons_succ]); try exact rfl
     case br2015 =>
      refine step_appX _ (by rfl) _ _ 30 (by rfl) Tryz.el_ent oLa (by rfl) (Reads.of_own (own_below oa.out bw (Nat.le_refl _))) (by rfl) (ES_cells _) (by unfold maxLen; omega) (by omega) bw.size ?_
      intro v q ow hg hor hb
      rw [Nat.zero_add, List.nil_append] at ow
      obtain ⟨bRa, cRa, rfl⟩ := own_form1 ow (by omega)
      have bw2 := bw.trans hb
      have oRa2 : q.ownsRow w.heap.size 40 4 (.slice (some ⟨bRa, 0, none⟩) (a.xs.length) cRa) (a.xs.length) (ES a.xs) := ow
      try simp only [Act.put, List.setIfInBounds_toArray, List.set_cons_zero, List.set_cons_succ]
      refine hK.out _ _ (by exact keep1 bw2 yb) (fun _ => ?_)
      clear hK K
      try simp only [Act.put, List.setIfInBounds_toArray, List.set_cons_zero, List.set_cons_succ]
      exact key_c3_2_6_7 aLa bRa cRa q ⟨bw2, oRa2⟩
   case key =>
    rintro aLa bRa cRa r ⟨bw, oRa⟩
    try dsimp only
    refine wpAnyH_ready (rs := [13]) (by kernel_rfl) (by simp) ?_
    refine AllReadyH.cons (o := ?oi2016) ?hi2016 (fun K hK => ?br2016) AllReadyH.nil
    case hi2016 => (conv => lhs; simp only [List.getElem?_toArray, List.getElem?_cons_zero, List.getElem?_cons_succ]); try exact rfl
    case br2016 =>
     refine step_appX _ (by rfl) _ _ 30 (by rfl) Tryz.el_ent oRa (by rfl) (Reads.of_own (own_below ob.out bw (Nat.le_refl _))) (by rfl) (ES_cells _) (by unfold maxLen; omega) (by omega) bw.size ?_
     intro v q ow hg hor hb
     obtain ⟨bRb, cRb, rfl⟩ := own_form1 ow (by omega)
     have bw2 := bw.trans hb
     have oRb2 : q.ownsRow w.heap.size 40 4 (.slice (some ⟨bRb, 0, none⟩) (a.xs.length + b.xs.length) cRb) (a.xs.length + b.xs.length) (ES a.xs ++ ES b.xs) := ow
     try simp only [Act.put, List.setIfInBounds_toArray, List.set_cons_zero, List.set_cons_succ]
     refine hK.out _ _ (by exact keep1 bw2 yb) (fun _ => ?_)
     clear hK K
     try simp only [Act.put, List.setIfInBounds_toArray, List.set_cons_zero, List.set_cons_succ]
     refine wpAnyH_take (i := 14) (oi := ?oi2017) (v := ?v2017) ?hi2017 ?hs2017 ?hf2017 ?hr2017 ?hQ2017 ?hy2017 ?hS2017 ?hrest2017
     case hi2017 => (conv => lhs; simp only [List.getElem?_toArray, List.getElem?_cons_zero, List.getElem?_cons_succ]); try exact rfl
     case hs2017 => kernel_rfl
     case hf2017 => kernel_rfl
     case hr2017 => kernel_rfl
     case hQ2017 => exact fun _ _ _ h => h
     case hS2017 => exact keep1 bw2 yb
     case hy2017 => refine Or.inl ⟨by rfl, ?_⟩; intro w hSw; (try dsimp only at hSw); go_simp; (try with_reducible rfl)
     simp only [Act.put, List.setIfInBounds_toArray, List.set_cons_zero, List.set_cons_succ]
     exact key_c3_2_6_7_13 aLa bRa bRb cRa cRb q ⟨bw2, oRb2⟩
  case key =>
   rintro aLa bRa bRb cRa cRb r ⟨bw, oRb⟩
   try dsimp only
   refine wpAnyH_ready (rs := [15]) (by kernel_rfl) (by simp) ?_
   refine AllReadyH.cons (o := ?oi2018) ?hi2018 (fun K hK => ?br2018) AllReadyH.nil
   case hi2018 => (conv => lhs; simp only [List.getElem?_toArray, List.getElem?_cons_zero, List.getElem?_cons_succ]); try exact rfl
   case br2018 =>
    have Yr := own_below hY.out bw (Nat.le_refl _)
    have x_0 := keep1 bw ya
    have f_0 := own_frozen Yr k
    go_simp
    refine hK.out _ _ (by exact cellS (keep1 bw yb) (fun e => nki (by injection e))) (fun _ => ?_)
    clear hK K
    try simp only [Act.put, List.setIfInBounds_toArray, List.set_cons_zero, List.set_cons_succ]
    refine wpAnyH_done (by kernel_rfl) ?_ _
    obtain ⟨q, hq⟩ : ∃ y : PgD, y = ⟨bRb, cRb, a.xs ++ b.xs, a.xs.length + b.xs.length, cRb⟩ := ⟨_, rfl⟩
    have hqv : q.val = .slice (some ⟨bRb, 0, none⟩) (a.xs.length + b.xs.length) cRb := by rw [hq]; rfl
    have hql : (a.xs ++ b.xs).length = a.xs.length + b.xs.length := by simp
    have hqd : OwnD r lo q := by
      rw [hq]
      refine ⟨?_, by simp only [hql]; exact Nat.le_refl _⟩
      simp only [hql]
      have h := own_more oRb hlo
      simp only [← ES_append] at h
      exact h
    have HP12 := hO.out.set (w' := r) (q := q) kL (gb_new bw) hqd (.inr (by rw [hq]; exact (own_some oRb).1))
    have HP13 := Lib.hid (HP12.app Yr (show r.grownBy (r.setCell ⟨g0, k, none⟩ (.slice (some ⟨bRb, 0, none⟩) (a.xs.length + b.xs.length) cRb)) (some g0) from only_sc (grown_refl _ _) k _))
    have y := own_set Yr k q.val
    rw [PV_set, hqv] at y
    have Y13 := Lib.hid y
    have B13 := Lib.hid ((bw.mono hlo).setCell (p := ⟨g0, k, none⟩) lg0 (.slice (some ⟨bRb, 0, none⟩) (a.xs.length + b.xs.length) cRb))
    have hz13 := Lib.hid (hZ.out.set (k := k) (q := q) (by rw [hq]; exact ⟨⟨hql.symm, rfl⟩, by simp only [hql]; omega, by simp only [hql]; omega, fun x hx => (List.mem_append.1 hx).elim (Na.out x) (Nb.out x)⟩))
    have hsl : (L.set k q).length = n := by rw [List.length_set]; exact hN
    clear y bw Yr oRb HP12 hqd x_0 f_0 hq hqv hql
    generalize (r.setCell ⟨g0, k, none⟩ (.slice (some ⟨bRb, 0, none⟩) (a.xs.length + b.xs.length) cRb)) = w13 at B13 HP13 Y13 ⊢
    have l13 : lo ≤ w13.heap.size := by have := (Y13.out.lt g0 rfl).2; omega
    go_wp2_with fail
    refine (l18Without_any lo g0 n c0 (L.set k q) i din (by omega) w13 Y13.out).mono ?_
    rintro e w14 ⟨⟨v14, rfl, own14⟩, hb14⟩
    have hsub := cut_sub (L.set k q) i
    have HP14 := Lib.hid ((HP13.out.bl hb14).sub hsub)
    have hml : ((L.set k q).take i ++ (L.set k q).drop (i + 1)).length ≤ 9 := by have := hsub.length_le; omega
    have HS := Lib.hid ((hz13.out.sub hsub).sm hml)
    have own15 := own_more own14 l13
    have B14 := Lib.hid (B13.out.trans (hb14.mono l13))
    obtain ⟨m14, hm14⟩ : ∃ m, ((L.set k q).take i ++ (L.set k q).drop (i + 1)).length = m := ⟨_, rfl⟩
    rw [hm14] at own15
    have Own15 := Lib.hid own15
    clear own14 own15 hsub hml hb14
    go_wp2
    refine bodyPost_ret (v := v14) (by simp [results, Tryz.results91, go_sem]) rfl ⟨fillOut_end HP14.out hm14 Own15.out HS.out, B14.out⟩

set_option maxRecDepth 100000 in
set_option maxHeartbeats 4000000 in
theorem fill_4 (N lo g0 n c0 k : Nat) (L : List PgD) (w : World) (hN : L.length = n) (h8 : n ≤ 8) (hk : k < n) (hz : FzL N L) (HO : OwnP w lo L) (HY : w.ownsRow lo 30 1 (.slice (some ⟨g0, 0, none⟩) n c0) n (PV L))
    (hc : k + 1 = n) (h1 : ∀ (h : k < L.length), L[k].xs.length = 1) (k0 : 0 < k) (h3 : ∀ (h : k - 1 < L.length), ¬ 2 < L[k - 1].xs.length) :
    Calls Tryz.prog 91 #[.slice (some ⟨g0, 0, none⟩) n c0, .int .i64 k] w fun r w' => FillOut N lo r w' ∧ Below lo w w' := by
  have hf := hz.f
  have hO := Lib.hid HO
  have hY := Lib.hid HY
  have hZ := Lib.hid hz
  have hlo : lo ≤ w.heap.size := by have := HY.lt g0 rfl; omega
  have lg0 := (HY.lt g0 rfl).1
  have lg1 := (HY.lt g0 rfl).2
  have kL : k < L.length := by omega
  have q0 : (0 : Int) ≤ (k : Int) := by omega
  have q1 : (k : Int) < (n : Int) := by omega
  obtain ⟨a, ha, ma, da, va, ya, ca, nea⟩ := pgf HO HY hf (k := k) (kL)
  have oa := Lib.hid da.1
  obtain ⟨fa, za, la, na⟩ := hz _ ma
  have Na := Lib.hid na
  clear na
  have a1 : a.xs.length = 1 := by rw [← ha]; exact h1 kL
  have e0 : ((n : Int) == 1) = false := beq_eq_false_iff_ne.2 (by omega)
  have e1 : (((a.xs.length : Nat) : Int) == 0) = false := beq_eq_false_iff_ne.2 (by omega)
  have e2 : ¬ (((a.xs.length : Nat) : Int) ≥ 2) := by omega
  have e3 : ¬ ((2 : Int) ≤ ((a.xs.length : Nat) : Int)) := by omega
  have a2 : a.xs.length ≤ 1 := by omega
  clear a1
  have pL : k - 1 < L.length := by omega
  obtain ⟨p, hp, mp, dp, vp, yp, cp, nep⟩ := pgf HO HY hf (k := k - 1) (pL)
  have op := Lib.hid dp.1
  obtain ⟨fp, zp, lp, np⟩ := hz _ mp
  have Np := Lib.hid np
  clear np
  have p2 : ¬ 2 < p.xs.length := by have := h3 (by omega); rw [hp] at this; exact this
  obtain ⟨j, hj⟩ : ∃ j, j = k - 1 := ⟨_, rfl⟩
  rw [← hj] at yp
  have wj : IntKind.i64.wrap ((k : Int) - 1) = (j : Int) := by rw [IntKind.wrap_i64]; omega
  have r7 : (k : Int) > 0 := by omega
  have r8 : (0 : Int) ≤ (j : Int) := by omega
  have r9 : (j : Int) < (n : Int) := by omega
  have ra : ¬ (((p.xs.length : Nat) : Int) > 2) := by omega
  have rb : ¬ ((2 : Int) < ((p.xs.length : Nat) : Int)) := by omega
  have rc : (0 : Int) < (k : Int) := by omega
  have njk : j ≠ k := by omega
  have jL : j < L.length := by omega
  have wk : IntKind.i64.wrap ((k : Int) + 1) = (k : Int) + 1 := by rw [IntKind.wrap_i64]; omega
  have qn : ¬ ((k : Int) + 1 < (n : Int)) := by omega
  clear HO HY hz hf h1 h3 ha hp va vp hj
  go_enter Tryz.func91, Tryz.ntmps91
  go_wp2_with fail
  refine wp_region_held_drew (S := fun w' => w'.cell? ⟨g0, k, none⟩ = some (.slice (some ⟨a.g, 0, none⟩) a.xs.length a.c)) (by kernel_rfl) (by exact ya) (fun hHeld => ?_)
  clear hHeld
  refine foldH ?_
  intro r hr0
  have bw : Below w.heap.size w r := by rw [hr0]; exact (bel0 w).drew
  clear hr0
  apply mem3_nnnnnw (P := fun aLa bRa bRb cRa cRb q => Below w.heap.size w q ∧ q.ownsRow w.heap.size 40 4 (.slice (some ⟨bRb, 0, none⟩) (p.xs.length + a.xs.length) cRb) (p.xs.length + a.xs.length) (ES p.xs ++ ES a.xs))
  case use =>
   intro key_c4_3_8_9_14
   apply mem3_nnnw (P := fun aLa bRa cRa q => Below w.heap.size w q ∧ q.ownsRow w.heap.size 40 4 (.slice (some ⟨bRa, 0, none⟩) (p.xs.length) cRa) (p.xs.length) (ES p.xs))
   case use =>
    intro key_c4_3_8_9
    apply mem3_nw (P := fun aLa q => Below w.heap.size w q ∧ q.ownsRow w.heap.size 40 4 (.slice (some ⟨aLa, 0, none⟩) (0) 0) (0) ([]))
    case use =>
     intro key_c4_3_8
     apply mem3_w (P := fun  q => Below w.heap.size w q)
     case use =>
      intro key_c4_8
      apply mem3_nw (P := fun aLa q => Below w.heap.size w q ∧ q.ownsRow w.heap.size 40 4 (.slice (some ⟨aLa, 0, none⟩) (0) 0) (0) ([]))
      case use =>
       intro key_c4_3
       refine wpAnyH_take (i := 0) (oi := ?oi3001) (v := ?v3001) ?hi3001 ?hs3001 ?hf3001 ?hr3001 ?hQ3001 ?hy3001 ?hS3001 ?hrest3001
       case hi3001 => (conv => lhs; simp only [List.getElem?_toArray, List.getElem?_cons_zero]); try exact rfl
       case hs3001 => kernel_rfl
       case hf3001 => kernel_rfl
       case hr3001 => kernel_rfl
       case hQ3001 => exact fun _ _ _ h => h
       case hS3001 => exact keep1 bw ya
       case hy3001 => refine Or.inl ⟨by rfl, ?_⟩; intro w hSw; (try dsimp only at hSw); go_simp; (try with_reducible rfl)
       simp only [Act.put, List.setIfInBounds_toArray, List.set_cons_zero, List.set_cons_succ]
       refine wpAnyH_take (i := 1) (oi := ?oi3002) (v := ?v3002) ?hi3002 ?hs3002 ?hf3002 ?hr3002 ?hQ3002 ?hy3002 ?hS3002 ?hrest3002
       case hi3002 => (conv => lhs; simp only [List.getElem?_toArray, List.getElem?_cons_zero, List.getElem?_cons_succ]); try exact rfl
       case hs3002 => kernel_rfl
       case hf3002 => kernel_rfl
       case hr3002 => kernel_rfl
       case hQ3002 => exact fun _ _ _ h => h
       case hS3002 => exact keep1 bw ya
       case hy3002 => refine Or.inl ⟨by rfl, ?_⟩; intro w hSw; (try dsimp only at hSw); go_simp; (try with_reducible rfl)
       simp only [Act.put, List.setIfInBounds_toArray, List.set_cons_zero, List.set_cons_succ]
       refine wpAnyH_take (i := 2) (oi := ?oi3003) (v := ?v3003) ?hi3003 ?hs3003 ?hf3003 ?hr3003 ?hQ3003 ?hy3003 ?hS3003 ?hrest3003
       case hi3003 => (conv => lhs; simp only [List.getElem?_toArray, List.getElem?_cons_zero, List.getElem?_cons_succ]); try exact rfl
       case hs3003 => kernel_rfl
       case hf3003 => kernel_rfl
       case hr3003 => kernel_rfl
       case hQ3003 => exact fun _ _ _ h => h
       case hS3003 => exact keep1 bw ya
       case hy3003 => refine Or.inl ⟨by rfl, ?_⟩; intro w hSw; (try dsimp only at hSw); go_simp; (try with_reducible rfl)
       simp only [Act.put, List.setIfInBounds_toArray, List.set_cons_zero, List.set_cons_succ]
       refine wpAnyH_take (i := 4) (oi := ?oi3004) (v := ?v3004) ?hi3004 ?hs3004 ?hf3004 ?hr3004 ?hQ3004 ?hy3004 ?hS3004 ?hrest3004
       case hi3004 => (conv => lhs; simp only [List.getElem?_toArray, List.getElem?_cons_zero, List.getElem?_cons_succ]); try exact rfl
       case hs3004 => kernel_rfl
       case hf3004 => kernel_rfl
       case hr3004 => kernel_rfl
       case hQ3004 => exact fun _ _ _ h => h
       case hS3004 => exact keep1 bw ya
       case hy3004 => refine Or.inl ⟨by rfl, ?_⟩; intro w hSw; (try dsimp only at hSw); go_simp; (try with_reducible rfl)
       simp only [Act.put, List.setIfInBounds_toArray, List.set_cons_zero, List.set_cons_succ]
       refine wpAnyH_take (i := 5) (oi := ?oi3005) (v := ?v3005) ?hi3005 ?hs3005 ?hf3005 ?hr3005 ?hQ3005 ?hy3005 ?hS3005 ?hrest3005
       case hi3005 => (conv => lhs; simp only [List.getElem?_toArray, List.getElem?_cons_zero, List.getElem?_cons_succ]); try exact rfl
       case hs3005 => kernel_rfl
       case hf3005 => kernel_rfl
       case hr3005 => kernel_rfl
       case hQ3005 => exact fun _ _ _ h => h
       case hS3005 => exact keep1 bw ya
       case hy3005 => refine Or.inl ⟨by rfl, ?_⟩; intro w hSw; (try dsimp only at hSw); go_simp; (try with_reducible rfl)
       simp only [Act.put, List.setIfInBounds_toArray, List.set_cons_zero, List.set_cons_succ]
       refine wpAnyH_take (i := 6) (oi := ?oi3006) (v := ?v3006) ?hi3006 ?hs3006 ?hf3006 ?hr3006 ?hQ3006 ?hy3006 ?hS3006 ?hrest3006
       case hi3006 => (conv => lhs; simp only [List.getElem?_toArray, List.getElem?_cons_zero, List.getElem?_cons_succ]); try exact rfl
       case hs3006 => kernel_rfl
       case hf3006 => kernel_rfl
       case hr3006 => kernel_rfl
       case hQ3006 => exact fun _ _ _ h => h
       case hS3006 => exact keep1 bw ya
       case hy3006 => refine Or.inl ⟨by rfl, ?_⟩; intro w hSw; (try dsimp only at hSw); go_simp; (try with_reducible rfl)
       simp only [Act.put, List.setIfInBounds_toArray, List.set_cons_zero, List.set_cons_succ]
       refine wpAnyH_take (i := 7) (oi := ?oi3007) (v := ?v3007) ?hi3007 ?hs3007 ?hf3007 ?hr3007 ?hQ3007 ?hy3007 ?hS3007 ?hrest3007
       case hi3007 => (conv => lhs; simp only [List.getElem?_toArray, List.getElem?_cons_zero, List.getElem?_cons_succ]); try exact rfl
       case hs3007 => kernel_rfl
       case hf3007 => kernel_rfl
       case hr3007 => kernel_rfl
       case hQ3007 => exact fun _ _ _ h => h
       case hS3007 => exact keep1 bw ya
       case hy3007 => refine Or.inl ⟨by rfl, ?_⟩; intro w hSw; (try dsimp only at hSw); go_simp; (try with_reducible rfl)
       simp only [Act.put, List.setIfInBounds_toArray, List.set_cons_zero, List.set_cons_succ]
       refine wpAnyH_take (i := 10) (oi := ?oi3008) (v := ?v3008) ?hi3008 ?hs3008 ?hf3008 ?hr3008 ?hQ3008 ?hy3008 ?hS3008 ?hrest3008
       case hi3008 => (conv => lhs; simp only [List.getElem?_toArray, List.getElem?_cons_zero, List.getElem?_cons_succ]); try exact rfl
       case hs3008 => kernel_rfl
       case hf3008 => kernel_rfl
       case hr3008 => kernel_rfl
       case hQ3008 => exact fun _ _ _ h => h
       case hS3008 => exact keep1 bw ya
       case hy3008 => refine Or.inl ⟨by rfl, ?_⟩; intro w hSw; (try dsimp only at hSw); go_simp; (try with_reducible rfl)
       simp only [Act.put, List.setIfInBounds_toArray, List.set_cons_zero, List.set_cons_succ]
       refine wpAnyH_take (i := 11) (oi := ?oi3009) (v := ?v3009) ?hi3009 ?hs3009 ?hf3009 ?hr3009 ?hQ3009 ?hy3009 ?hS3009 ?hrest3009
       case hi3009 => (conv => lhs; simp only [List.getElem?_toArray, List.getElem?_cons_zero, List.getElem?_cons_succ]); try exact rfl
       case hs3009 => kernel_rfl
       case hf3009 => kernel_rfl
       case hr3009 => kernel_rfl
       case hQ3009 => exact fun _ _ _ h => h
       case hS3009 => exact keep1 bw ya
       case hy3009 => refine Or.inl ⟨by rfl, ?_⟩; intro w hSw; (try dsimp only at hSw); go_simp; (try with_reducible rfl)
       simp only [Act.put, List.setIfInBounds_toArray, List.set_cons_zero, List.set_cons_succ]
       refine wpAnyH_take (i := 12) (oi := ?oi3010) (v := ?v3010) ?hi3010 ?hs3010 ?hf3010 ?hr3010 ?hQ3010 ?hy3010 ?hS3010 ?hrest3010
       case hi3010 => (conv => lhs; simp only [List.getElem?_toArray, List.getElem?_cons_zero, List.getElem?_cons_succ]); try exact rfl
       case hs3010 => kernel_rfl
       case hf3010 => kernel_rfl
       case hr3010 => kernel_rfl
       case hQ3010 => exact fun _ _ _ h => h
       case hS3010 => exact keep1 bw ya
       case hy3010 => refine Or.inl ⟨by rfl, ?_⟩; intro w hSw; (try dsimp only at hSw); go_simp; (try with_reducible rfl)
       simp only [Act.put, List.setIfInBounds_toArray, List.set_cons_zero, List.set_cons_succ]
       refine wpAnyH_take (i := 13) (oi := ?oi3011) (v := ?v3011) ?hi3011 ?hs3011 ?hf3011 ?hr3011 ?hQ3011 ?hy3011 ?hS3011 ?hrest3011
       case hi3011 => (conv => lhs; simp only [List.getElem?_toArray, List.getElem?_cons_zero, List.getElem?_cons_succ]); try exact rfl
       case hs3011 => kernel_rfl
       case hf3011 => kernel_rfl
       case hr3011 => kernel_rfl
       case hQ3011 => exact fun _ _ _ h => h
       case hS3011 => exact keep1 bw ya
       case hy3011 => refine Or.inl ⟨by rfl, ?_⟩; intro w hSw; (try dsimp only at hSw); go_simp; (try with_reducible rfl)
       simp only [Act.put, List.setIfInBounds_toArray, List.set_cons_zero, List.set_cons_succ]
       refine wpAnyH_ready (rs := [3, 8]) (by kernel_rfl) (by simp) ?_
       refine AllReadyH.cons (o := ?oi3012) ?hi3012 (fun K hK => ?br3012) (AllReadyH.cons (o := ?oi3013) ?hi3013 (fun K hK => ?br3013) AllReadyH.nil)
       case hi3012 => (conv => lhs; simp only [List.getElem?_toArray, List.getElem?_cons_zero, List.getElem?_cons_succ]); try exact rfl
       case hi3013 => (conv => lhs; simp only [List.getElem?_toArray, List.getElem?_cons_zero, List.getElem?_cons_succ]); try exact rfl
       case br3012 =>
        go_simp
        refine hK.out _ _ (by exact keep1 (belA bw (.cells #[] 40)) ya) (fun _ => ?_)
        clear hK K
        try simp only [Act.put, List.setIfInBounds_toArray, List.set_cons_zero, List.set_cons_succ]
        refine foldH ?_
        intro q hq
        obtain ⟨aLa, ha⟩ : ∃ g, r.heap.size = g := ⟨_, rfl⟩
        rw [ha]
        have bw2 : Below w.heap.size w q := by rw [hq]; exact belA bw _
        have oLa2 : q.ownsRow w.heap.size 40 4 (.slice (some ⟨aLa, 0, none⟩) (0) 0) (0) ([]) := by rw [hq, ← ha]; exact own_lit0 _ _ _ _ bw.size
        exact key_c4_3 aLa q ⟨bw2, oLa2⟩
       case br3013 =>
        have x_0 := keep1 bw yp
        go_simp
        refine hK.out _ _ (by exact keep1 bw ya) (fun _ => ?_)
        clear hK K
        try simp only [Act.put, List.setIfInBounds_toArray, List.set_cons_zero, List.set_cons_succ]
        have bw2 := bw
        exact key_c4_8  r bw2
      case key =>
       rintro aLa r ⟨bw, oLa⟩
       try dsimp only
       refine wpAnyH_ready (rs := [8]) (by kernel_rfl) (by simp) ?_
       refine AllReadyH.cons (o := ?oi3014) ?hi3014 (fun K hK => ?br3014) AllReadyH.nil
       case hi3014 => (conv => lhs; simp only [List.getElem?_toArray, List.getElem?_cons_zero, List.getElem?_cons_succ]); try exact rfl
       case br3014 =>
        have x_0 := keep1 bw yp
        go_simp
        refine hK.out _ _ (by exact keep1 bw ya) (fun _ => ?_)
        clear hK K
        try simp only [Act.put, List.setIfInBounds_toArray, List.set_cons_zero, List.set_cons_succ]
        have bw2 := bw
        have oLa2 := oLa
        exact key_c4_3_8 aLa r ⟨bw2, oLa2⟩
     case key =>
      rintro  r bw
      try dsimp only
      refine wpAnyH_ready (rs := [3]) (by kernel_rfl) (by simp) ?_
      refine AllReadyH.cons (o := ?oi3015) ?hi3015 (fun K hK => ?br3015) AllReadyH.nil
      case hi3015 => (conv => lhs; simp only [List.getElem?_toArray, List.getElem?_cons_zero, List.getElem?_cons_succ]); try exact rfl
      case br3015 =>
       go_simp
       refine hK.out _ _ (by exact keep1 (belA bw (.cells #[] 40)) ya) (fun _ => ?_)
       clear hK K
       try simp only [Act.put, List.setIfInBounds_toArray, List.set_cons_zero, List.set_cons_succ]
       refine foldH ?_
       intro q hq
       obtain ⟨aLa, ha⟩ : ∃ g, r.heap.size = g := ⟨_, rfl⟩
       rw [ha]
       have bw2 : Below w.heap.size w q := by rw [hq]; exact belA bw _
       have oLa2 : q.ownsRow w.heap.size 40 4 (.slice (some ⟨aLa, 0, none⟩) (0) 0) (0) ([]) := by rw [hq, ← ha]; exact own_lit0 _ _ _ _ bw.size
       exact key_c4_3_8 aLa q ⟨bw2, oLa2⟩
    case key =>
     rintro aLa r ⟨bw, oLa⟩
     try dsimp only
     refine wpAnyH_ready (rs := [9]) (by kernel_rfl) (by simp) ?_
     refine AllReadyH.cons (o := ?oi3016) ?hi3016 (fun K hK => ?br3016) AllReadyH.nil
     case hi3016 => (conv => lhs; simp only [List.getElem?_toArray, List.getElem?_cons_zero, List.getElem?_cons_succ]); try exact rfl
     case br3016 =>
      refine step_appX _ (by rfl) _ _ 30 (by rfl) Tryz.el_ent oLa (by rfl) (Reads.of_own (own_below op.out bw (Nat.le_refl _))) (by rfl) (ES_cells _) (by unfold maxLen; omega) (by omega) bw.size ?_
      intro v q ow hg hor hb
      rw [Nat.zero_add, List.nil_append] at ow
      obtain ⟨bRa, cRa, rfl⟩ := own_form1 ow (by omega)
      have bw2 := bw.trans hb
      have oRa2 : q.ownsRow w.heap.size 40 4 (.slice (some ⟨bRa, 0, none⟩) (p.xs.length) cRa) (p.xs.length) (ES p.xs) := ow
      try simp only [Act.put, List.setIfInBounds_toArray, List.set_cons_zero, List.set_cons_succ]
      refine hK.out _ _ (by exact keep1 bw2 ya) (fun _ => ?_)
      clear hK K
      try simp only [Act.put, List.setIfInBounds_toArray, List.set_cons_zero, List.set_cons_succ]
      exact key_c4_3_8_9 aLa bRa cRa q ⟨bw2, oRa2⟩
   case key =>
    rintro aLa bRa cRa r ⟨bw, oRa⟩
    try dsimp only
    refine wpAnyH_ready (rs := [14]) (by kernel_rfl) (by simp) ?_
    refine AllReadyH.cons (o := ?oi3017) ?hi3017 (fun K hK => ?br3017) AllReadyH.nil
    case hi3017 => (conv => lhs; simp only [List.getElem?_toArray, List.getElem?_cons_zero, List.getElem?_cons_succ]); try exact rfl
    case br3017 =>
     refine step_appX _ (by rfl) _ _ 30 (by rfl) Tryz.el_ent oRa (by rfl) (Reads.of_own (own_below oa.out bw (Nat.le_refl _))) (by rfl) (ES_cells _) (by unfold maxLen; omega) (by omega) bw.size ?_
     intro v q ow hg hor hb
     obtain ⟨bRb, cRb, rfl⟩ := own_form1 ow (by omega)
     have bw2 := bw.trans hb
     have oRb2 : q.ownsRow w.heap.size 40 4 (.slice (some ⟨bRb, 0, none⟩) (p.xs.length + a.xs.length) cRb) (p.xs.length + a.xs.length) (ES p.xs ++ ES a.xs) := ow
     try simp only [Act.put, List.setIfInBounds_toArray, List.set_cons_zero, List.set_cons_succ]
     refine hK.out _ _ (by exact keep1 bw2 ya) (fun _ => ?_)
     clear hK K
     try simp only [Act.put, List.setIfInBounds_toArray, List.set_cons_zero, List.set_cons_succ]
     refine wpAnyH_take (i := 15) (oi := ?oi3018) (v := ?v3018) ?hi3018 ?hs3018 ?hf3018 ?hr3018 ?hQ3018 ?hy3018 ?hS3018 ?hrest3018
     case hi3018 => (conv => lhs; simp only [List.getElem?_toArray, List.getElem?_cons_zero, List.getElem?_cons_succ]); try exact rfl
     case hs3018 => kernel_rfl
     case hf3018 => kernel_rfl
     case hr3018 => kernel_rfl
     case hQ3018 => exact fun _ _ _ h => h
     case hS3018 => exact keep1 bw2 ya
     case hy3018 => refine Or.inl ⟨by rfl, ?_⟩; intro w hSw; (try dsimp only at hSw); go_simp; (try with_reducible rfl)
     simp only [Act.put, List.setIfInBounds_toArray, List.set_cons_zero, List.set_cons_succ]
     exact key_c4_3_8_9_14 aLa bRa bRb cRa cRb q ⟨bw2, oRb2⟩
  case key =>
   rintro aLa bRa bRb cRa cRb r ⟨bw, oRb⟩
   try dsimp only
   refine wpAnyH_ready (rs := [16]) (by kernel_rfl) (by simp) ?_
   refine AllReadyH.cons (o := ?oi3019) ?hi3019 (fun K hK => ?br3019) AllReadyH.nil
   case hi3019 => (conv => lhs; simp only [List.getElem?_toArray, List.getElem?_cons_zero, List.getElem?_cons_succ]); try exact rfl
   case br3019 =>
    have Yr := own_below hY.out bw (Nat.le_refl _)
    have x_0 := keep1 bw yp
    have f_0 := own_frozen Yr j
    go_simp
    refine hK.out _ _ (by exact cellS (keep1 bw ya) (fun e => njk (by injection e))) (fun _ => ?_)
    clear hK K
    try simp only [Act.put, List.setIfInBounds_toArray, List.set_cons_zero, List.set_cons_succ]
    refine wpAnyH_done (by kernel_rfl) ?_ _
    obtain ⟨q, hq⟩ : ∃ y : PgD, y = ⟨bRb, cRb, p.xs ++ a.xs, p.xs.length + a.xs.length, cRb⟩ := ⟨_, rfl⟩
    have hqv : q.val = .slice (some ⟨bRb, 0, none⟩) (p.xs.length + a.xs.length) cRb := by rw [hq]; rfl
    have hql : (p.xs ++ a.xs).length = p.xs.length + a.xs.length := by simp
    have hqd : OwnD r lo q := by
      rw [hq]
      refine ⟨?_, by simp only [hql]; exact Nat.le_refl _⟩
      simp only [hql]
      have h := own_more oRb hlo
      simp only [← ES_append] at h
      exact h
    have HP12 := hO.out.set (w' := r) (q := q) jL (gb_new bw) hqd (.inr (by rw [hq]; exact (own_some oRb).1))
    have HP13 := Lib.hid (HP12.app Yr (show r.grownBy (r.setCell ⟨g0, j, none⟩ (.slice (some ⟨bRb, 0, none⟩) (p.xs.length + a.xs.length) cRb)) (some g0) from only_sc (grown_refl _ _) j _))
    have y := own_set Yr j q.val
    rw [PV_set, hqv] at y
    have Y13 := Lib.hid y
    have B13 := Lib.hid ((bw.mono hlo).setCell (p := ⟨g0, j, none⟩) lg0 (.slice (some ⟨bRb, 0, none⟩) (p.xs.length + a.xs.length) cRb))
    have hz13 := Lib.hid (hZ.out.set (k := j) (q := q) (by rw [hq]; exact ⟨⟨hql.symm, rfl⟩, by simp only [hql]; omega, by simp only [hql]; omega, fun x hx => (List.mem_append.1 hx).elim (Np.out x) (Na.out x)⟩))
    have hsl : (L.set j q).length = n := by rw [List.length_set]; exact hN
    clear y bw Yr oRb HP12 hqd x_0 f_0 hq hqv hql
    generalize (r.setCell ⟨g0, j, none⟩ (.slice (some ⟨bRb, 0, none⟩) (p.xs.length + a.xs.length) cRb)) = w13 at B13 HP13 Y13 ⊢
    have l13 : lo ≤ w13.heap.size := by have := (Y13.out.lt g0 rfl).2; omega
    go_wp2_with fail
    refine (l18Without_any lo g0 n c0 (L.set j q) k hk (by omega) w13 Y13.out).mono ?_
    rintro e w14 ⟨⟨v14, rfl, own14⟩, hb14⟩
    have hsub := cut_sub (L.set j q) k
    have HP14 := Lib.hid ((HP13.out.bl hb14).sub hsub)
    have hml : ((L.set j q).take k ++ (L.set j q).drop (k + 1)).length ≤ 9 := by have := hsub.length_le; omega
    have HS := Lib.hid ((hz13.out.sub hsub).sm hml)
    have own15 := own_more own14 l13
    have B14 := Lib.hid (B13.out.trans (hb14.mono l13))
    obtain ⟨m14, hm14⟩ : ∃ m, ((L.set j q).take k ++ (L.set j q).drop (k + 1)).length = m := ⟨_, rfl⟩
    rw [hm14] at own15
    have Own15 := Lib.hid own15
    clear own14 own15 hsub hml hb14
    go_wp2
    refine bodyPost_ret (v := v14) (by simp [results, Tryz.results91, go_sem]) rfl ⟨fillOut_end HP14.out hm14 Own15.out HS.out, B14.out⟩

set_option maxRecDepth 100000 in
set_option maxHeartbeats 4000000 in
theorem fill_1 (N lo g0 n c0 k : Nat) (L : List PgD) (w : World) (hN : L.length = n) (h8 : n ≤ 8) (_hk : k < n) (hz : FzL N L) (HO : OwnP w lo L) (HY : w.ownsRow lo 30 1 (.slice (some ⟨g0, 0, none⟩) n c0) n (PV L))
    (hc : k + 1 < n) (h1 : ∀ (h : k < L.length), L[k].xs.length = 1) (h2 : ∀ (h : k + 1 < L.length), 2 < L[k + 1].xs.length) :
    Calls Tryz.prog 91 #[.slice (some ⟨g0, 0, none⟩) n c0, .int .i64 k] w fun r w' => FillOut N lo r w' ∧ Below lo w w' := by
  have hf := hz.f
  have hO := Lib.hid HO
  have hY := Lib.hid HY
  have hZ := Lib.hid hz
  have hlo : lo ≤ w.heap.size := by have := HY.lt g0 rfl; omega
  have lg0 := (HY.lt g0 rfl).1
  have lg1 := (HY.lt g0 rfl).2
  have kL : k < L.length := by omega
  have q0 : (0 : Int) ≤ (k : Int) := by omega
  have q1 : (k : Int) < (n : Int) := by omega
  obtain ⟨a, ha, ma, da, va, ya, ca, nea⟩ := pgf HO HY hf (k := k) (kL)
  have oa := Lib.hid da.1
  obtain ⟨fa, za, la, na⟩ := hz _ ma
  have Na := Lib.hid na
  clear na
  have a1 : a.xs.length = 1 := by rw [← ha]; exact h1 kL
  have e0 : ((n : Int) == 1) = false := beq_eq_false_iff_ne.2 (by omega)
  have e1 : (((a.xs.length : Nat) : Int) == 0) = false := beq_eq_false_iff_ne.2 (by omega)
  have e2 : ¬ (((a.xs.length : Nat) : Int) ≥ 2) := by omega
  have e3 : ¬ ((2 : Int) ≤ ((a.xs.length : Nat) : Int)) := by omega
  have a2 : a.xs.length ≤ 1 := by omega
  clear a1
  have bL : k + 1 < L.length := by omega
  obtain ⟨b, hb, mb, db, vb, yb, cb, neb⟩ := pgf HO HY hf (k := k + 1) (bL)
  have ob := Lib.hid db.1
  obtain ⟨fb, zb, lb, nb⟩ := hz _ mb
  have Nb := Lib.hid nb
  clear nb
  have b2 : 2 < b.xs.length := by have := h2 (by omega); rw [hb] at this; exact this
  obtain ⟨i, hi⟩ : ∃ i, i = k + 1 := ⟨_, rfl⟩
  rw [← hi] at yb
  have iL : i < L.length := by omega
  have hb' : L[i] = b := by subst hi; exact hb
  have wi : IntKind.i64.wrap ((k : Int) + 1) = (i : Int) := by rw [IntKind.wrap_i64]; omega
  have q2 : (0 : Int) ≤ (i : Int) := by omega
  have q3 : (i : Int) < (n : Int) := by omega
  have q5 : ((b.xs.length : Nat) : Int) > 2 := by omega
  have q6 : ((2 : Int) < ((b.xs.length : Nat) : Int)) := by omega
  have nki : k ≠ i := by omega
  have din : i < n := by omega
  obtain ⟨hk0, bb, oo, hbo, _, z0, z1, z2, z3⟩ := reads_ent (Reads.of_own ob.out) (show 0 < b.xs.length by omega)
  simp only [Option.some.injEq, Addr.mk.injEq, and_true] at hbo
  obtain ⟨rfl, rfl⟩ := hbo
  simp only [Nat.zero_mul, Nat.add_zero, Nat.zero_add] at z0 z1 z2 z3
  obtain ⟨e, he⟩ : ∃ e, b.xs[0] = e := ⟨_, rfl⟩
  rw [he] at z0 z1 z2 z3
  have qb0 : ((b.xs.length : Nat) : Int) > 0 := by omega
  have qb1 : 0 < b.xs.length := by omega
  have npg : b.g ≠ g0 := fun e => neb (by rw [e])
  have nb0 : (⟨g0, k, none⟩ : Addr) ≠ ⟨b.g, 0, none⟩ := fun e => npg (by injection e with e; exact e.symm)
  have nb1 : (⟨g0, k, none⟩ : Addr) ≠ ⟨b.g, 1, none⟩ := fun e => npg (by injection e with e; exact e.symm)
  have nb2 : (⟨g0, k, none⟩ : Addr) ≠ ⟨b.g, 2, none⟩ := fun e => npg (by injection e with e; exact e.symm)
  have nb3 : (⟨g0, k, none⟩ : Addr) ≠ ⟨b.g, 3, none⟩ := fun e => npg (by injection e with e; exact e.symm)
  clear HO HY hz hf h1 h2 ha hb va hi
  go_enter Tryz.func91, Tryz.ntmps91
  go_wp2_with fail
  refine wp_region_held_drew (S := fun w' => w'.cell? ⟨g0, i, none⟩ = some (.slice (some ⟨b.g, 0, none⟩) b.xs.length b.c) ∧ w'.cell? ⟨b.g, 0, none⟩ = some (.int .i64 e.h) ∧ w'.cell? ⟨b.g, 1, none⟩ = some (.int .i64 e.i) ∧ w'.cell? ⟨b.g, 2, none⟩ = some (.string e.s) ∧ w'.cell? ⟨b.g, 3, none⟩ = some (.int .i64 e.d)) (by kernel_rfl) (by exact ⟨yb, z0, z1, z2, z3⟩) (fun hHeld => ?_)
  clear hHeld
  refine foldH ?_
  intro r hr0
  have bw : Below w.heap.size w r := by rw [hr0]; exact (bel0 w).drew
  clear hr0
  apply mem3_nnnnnnw (P := fun aLa aLb bRa bRb cRa cRb q => Below w.heap.size w q ∧ q.ownsRow w.heap.size 40 4 (.slice (some ⟨aLb, 0, none⟩) (1) 1) (1) (ES [e]) ∧ q.ownsRow w.heap.size 40 4 (.slice (some ⟨bRb, 0, none⟩) (a.xs.length + 1) cRb) (a.xs.length + 1) (ES a.xs ++ ES [e]) ∧ aLb ≠ bRb)
  case use =>
   intro key_c1_2_6_7_15_16
   apply mem3_nnnnw (P := fun aLa aLb bRa cRa q => Below w.heap.size w q ∧ q.ownsRow w.heap.size 40 4 (.slice (some ⟨aLb, 0, none⟩) (1) 1) (1) (ES [e]) ∧ q.ownsRow w.heap.size 40 4 (.slice (some ⟨bRa, 0, none⟩) (a.xs.length) cRa) (a.xs.length) (ES a.xs) ∧ aLb ≠ bRa)
   case use =>
    intro key_c1_2_6_7_15
    apply mem3_nnw (P := fun aLa aLb q => Below w.heap.size w q ∧ q.ownsRow w.heap.size 40 4 (.slice (some ⟨aLa, 0, none⟩) (0) 0) (0) ([]) ∧ q.ownsRow w.heap.size 40 4 (.slice (some ⟨aLb, 0, none⟩) (1) 1) (1) (ES [e]) ∧ aLa ≠ aLb)
    case use =>
     intro key_c1_2_6_15
     apply mem3_nnnw (P := fun aLa bRa cRa q => Below w.heap.size w q ∧ q.ownsRow w.heap.size 40 4 (.slice (some ⟨bRa, 0, none⟩) (a.xs.length) cRa) (a.xs.length) (ES a.xs))
     case use =>
      intro key_c1_2_6_7
      apply mem3_nw (P := fun aLb q => Below w.heap.size w q ∧ q.ownsRow w.heap.size 40 4 (.slice (some ⟨aLb, 0, none⟩) (1) 1) (1) (ES [e]))
      case use =>
       intro key_c1_6_15
       apply mem3_nnw (P := fun aLa aLb q => Below w.heap.size w q ∧ q.ownsRow w.heap.size 40 4 (.slice (some ⟨aLa, 0, none⟩) (0) 0) (0) ([]) ∧ q.ownsRow w.heap.size 40 4 (.slice (some ⟨aLb, 0, none⟩) (1) 1) (1) (ES [e]) ∧ aLa ≠ aLb)
       case use =>
        intro key_c1_2_15
        apply mem3_nw (P := fun aLa q => Below w.heap.size w q ∧ q.ownsRow w.heap.size 40 4 (.slice (some ⟨aLa, 0, none⟩) (0) 0) (0) ([]))
        case use =>
         intro key_c1_2_6
         apply mem3_nw (P := fun aLb q => Below w.heap.size w q ∧ q.ownsRow w.heap.size 40 4 (.slice (some ⟨aLb, 0, none⟩) (1) 1) (1) (ES [e]))
         case use =>
          intro key_c1_15
          apply mem3_w (P := fun  q => Below w.heap.size w q)
          case use =>
           intro key_c1_6
           apply mem3_nw (P := fun aLa q => Below w.heap.size w q ∧ q.ownsRow w.heap.size 40 4 (.slice (some ⟨aLa, 0, none⟩) (0) 0) (0) ([]))
           case use =>
            intro key_c1_2
            refine wpAnyH_take (i := 0) (oi := ?oi4001) (v := ?v4001) ?hi4001 ?hs4001 ?hf4001 ?hr4001 ?hQ4001 ?hy4001 ?hS4001 ?hrest4001
            case hi4001 => (conv => lhs; simp only [List.getElem?_toArray, List.getElem?_cons_zero]); try exact rfl
            case hs4001 => kernel_rfl
            case hf4001 => kernel_rfl
            case hr4001 => kernel_rfl
            case hQ4001 => exact fun _ _ _ h => h
            case hS4001 => exact ⟨keep1 bw yb, keep1 bw z0, keep1 bw z1, keep1 bw z2, keep1 bw z3⟩
            case hy4001 => refine Or.inl ⟨by rfl, ?_⟩; intro w hSw; (try dsimp only at hSw); go_simp; (try with_reducible rfl)
            simp only [Act.put, List.setIfInBounds_toArray, List.set_cons_zero, List.set_cons_succ]
            refine wpAnyH_take (i := 1) (oi := ?oi4002) (v := ?v4002) ?hi4002 ?hs4002 ?hf4002 ?hr4002 ?hQ4002 ?hy4002 ?hS4002 ?hrest4002
            case hi4002 => (conv => lhs; simp only [List.getElem?_toArray, List.getElem?_cons_zero, List.getElem?_cons_succ]); try exact rfl
            case hs4002 => kernel_rfl
            case hf4002 => kernel_rfl
            case hr4002 => kernel_rfl
            case hQ4002 => exact fun _ _ _ h => h
            case hS4002 => exact ⟨keep1 bw yb, keep1 bw z0, keep1 bw z1, keep1 bw z2, keep1 bw z3⟩
            case hy4002 => refine Or.inl ⟨by rfl, ?_⟩; intro w hSw; (try dsimp only at hSw); go_simp; (try with_reducible rfl)
            simp only [Act.put, List.setIfInBounds_toArray, List.set_cons_zero, List.set_cons_succ]
            refine wpAnyH_take (i := 3) (oi := ?oi4003) (v := ?v4003) ?hi4003 ?hs4003 ?hf4003 ?hr4003 ?hQ4003 ?hy4003 ?hS4003 ?hrest4003
            case hi4003 => (conv => lhs; simp only [List.getElem?_toArray, List.getElem?_cons_zero, List.getElem?_cons_succ]); try exact rfl
            case hs4003 => kernel_rfl
            case hf4003 => kernel_rfl
            case hr4003 => kernel_rfl
            case hQ4003 => exact fun _ _ _ h => h
            case hS4003 => exact ⟨keep1 bw yb, keep1 bw z0, keep1 bw z1, keep1 bw z2, keep1 bw z3⟩
            case hy4003 => refine Or.inl ⟨by rfl, ?_⟩; intro w hSw; (try dsimp only at hSw); go_simp; (try with_reducible rfl)
            simp only [Act.put, List.setIfInBounds_toArray, List.set_cons_zero, List.set_cons_succ]
            refine wpAnyH_take (i := 4) (oi := ?oi4004) (v := ?v4004) ?hi4004 ?hs4004 ?hf4004 ?hr4004 ?hQ4004 ?hy4004 ?hS4004 ?hrest4004
            case hi4004 => (conv => lhs; simp only [List.getElem?_toArray, List.getElem?_cons_zero, List.getElem?_cons_succ]); try exact rfl
            case hs4004 => kernel_rfl
            case hf4004 => kernel_rfl
            case hr4004 => kernel_rfl
            case hQ4004 => exact fun _ _ _ h => h
            case hS4004 => exact ⟨keep1 bw yb, keep1 bw z0, keep1 bw z1, keep1 bw z2, keep1 bw z3⟩
            case hy4004 => refine Or.inl ⟨by rfl, ?_⟩; intro w hSw; (try dsimp only at hSw); go_simp; (try with_reducible rfl)
            simp only [Act.put, List.setIfInBounds_toArray, List.set_cons_zero, List.set_cons_succ]
            refine wpAnyH_take (i := 5) (oi := ?oi4005) (v := ?v4005) ?hi4005 ?hs4005 ?hf4005 ?hr4005 ?hQ4005 ?hy4005 ?hS4005 ?hrest4005
            case hi4005 => (conv => lhs; simp only [List.getElem?_toArray, List.getElem?_cons_zero, List.getElem?_cons_succ]); try exact rfl
            case hs4005 => kernel_rfl
            case hf4005 => kernel_rfl
            case hr4005 => kernel_rfl
            case hQ4005 => exact fun _ _ _ h => h
            case hS4005 => exact ⟨keep1 bw yb, keep1 bw z0, keep1 bw z1, keep1 bw z2, keep1 bw z3⟩
            case hy4005 => refine Or.inl ⟨by rfl, ?_⟩; intro w hSw; (try dsimp only at hSw); go_simp; (try with_reducible rfl)
            simp only [Act.put, List.setIfInBounds_toArray, List.set_cons_zero, List.set_cons_succ]
            refine wpAnyH_take (i := 8) (oi := ?oi4006) (v := ?v4006) ?hi4006 ?hs4006 ?hf4006 ?hr4006 ?hQ4006 ?hy4006 ?hS4006 ?hrest4006
            case hi4006 => (conv => lhs; simp only [List.getElem?_toArray, List.getElem?_cons_zero, List.getElem?_cons_succ]); try exact rfl
            case hs4006 => kernel_rfl
            case hf4006 => kernel_rfl
            case hr4006 => kernel_rfl
            case hQ4006 => exact fun _ _ _ h => h
            case hS4006 => exact ⟨keep1 bw yb, keep1 bw z0, keep1 bw z1, keep1 bw z2, keep1 bw z3⟩
            case hy4006 => refine Or.inl ⟨by rfl, ?_⟩; intro w hSw; (try dsimp only at hSw); go_simp; (try with_reducible rfl)
            simp only [Act.put, List.setIfInBounds_toArray, List.set_cons_zero, List.set_cons_succ]
            refine wpAnyH_take (i := 9) (oi := ?oi4007) (v := ?v4007) ?hi4007 ?hs4007 ?hf4007 ?hr4007 ?hQ4007 ?hy4007 ?hS4007 ?hrest4007
            case hi4007 => (conv => lhs; simp only [List.getElem?_toArray, List.getElem?_cons_zero, List.getElem?_cons_succ]); try exact rfl
            case hs4007 => kernel_rfl
            case hf4007 => kernel_rfl
            case hr4007 => kernel_rfl
            case hQ4007 => exact fun _ _ _ h => h
            case hS4007 => exact ⟨keep1 bw yb, keep1 bw z0, keep1 bw z1, keep1 bw z2, keep1 bw z3⟩
            case hy4007 => refine Or.inl ⟨by rfl, ?_⟩; intro w hSw; (try dsimp only at hSw); go_simp; (try with_reducible rfl)
            simp only [Act.put, List.setIfInBounds_toArray, List.set_cons_zero, List.set_cons_succ]
            refine wpAnyH_take (i := 10) (oi := ?oi4008) (v := ?v4008) ?hi4008 ?hs4008 ?hf4008 ?hr4008 ?hQ4008 ?hy4008 ?hS4008 ?hrest4008
            case hi4008 => (conv => lhs; simp only [List.getElem?_toArray, List.getElem?_cons_zero, List.getElem?_cons_succ]); try exact rfl
            case hs4008 => kernel_rfl
            case hf4008 => kernel_rfl
            case hr4008 => kernel_rfl
            case hQ4008 => exact fun _ _ _ h => h
            case hS4008 => exact ⟨keep1 bw yb, keep1 bw z0, keep1 bw z1, keep1 bw z2, keep1 bw z3⟩
            case hy4008 => refine Or.inl ⟨by rfl, ?_⟩; intro w hSw; (try dsimp only at hSw); go_simp; (try with_reducible rfl)
            simp only [Act.put, List.setIfInBounds_toArray, List.set_cons_zero, List.set_cons_succ]
            refine wpAnyH_take (i := 11) (oi := ?oi4009) (v := ?v4009) ?hi4009 ?hs4009 ?hf4009 ?hr4009 ?hQ4009 ?hy4009 ?hS4009 ?hrest4009
            case hi4009 => (conv => lhs; simp only [List.getElem?_toArray, List.getElem?_cons_zero, List.getElem?_cons_succ]); try exact rfl
            case hs4009 => kernel_rfl
            case hf4009 => kernel_rfl
            case hr4009 => kernel_rfl
            case hQ4009 => exact fun _ _ _ h => h
            case hS4009 => exact ⟨keep1 bw yb, keep1 bw z0, keep1 bw z1, keep1 bw z2, keep1 bw z3⟩
            case hy4009 => refine Or.inl ⟨by rfl, ?_⟩; intro w hSw; (try dsimp only at hSw); go_simp; (try with_reducible rfl)
            simp only [Act.put, List.setIfInBounds_toArray, List.set_cons_zero, List.set_cons_succ]
            refine wpAnyH_take (i := 12) (oi := ?oi4010) (v := ?v4010) ?hi4010 ?hs4010 ?hf4010 ?hr4010 ?hQ4010 ?hy4010 ?hS4010 ?hrest4010
            case hi4010 => (conv => lhs; simp only [List.getElem?_toArray, List.getElem?_cons_zero, List.getElem?_cons_succ]); try exact rfl
            case hs4010 => kernel_rfl
            case hf4010 => kernel_rfl
            case hr4010 => kernel_rfl
            case hQ4010 => exact fun _ _ _ h => h
            case hS4010 => exact ⟨keep1 bw yb, keep1 bw z0, keep1 bw z1, keep1 bw z2, keep1 bw z3⟩
            case hy4010 => refine Or.inl ⟨by rfl, ?_⟩; intro w hSw; (try dsimp only at hSw); go_simp; (try with_reducible rfl)
            simp only [Act.put, List.setIfInBounds_toArray, List.set_cons_zero, List.set_cons_succ]
            refine wpAnyH_take (i := 13) (oi := ?oi4011) (v := ?v4011) ?hi4011 ?hs4011 ?hf4011 ?hr4011 ?hQ4011 ?hy4011 ?hS4011 ?hrest4011
            case hi4011 => (conv => lhs; simp only [List.getElem?_toArray, List.getElem?_cons_zero, List.getElem?_cons_succ]); try exact rfl
            case hs4011 => kernel_rfl
            case hf4011 => kernel_rfl
            case hr4011 => kernel_rfl
            case hQ4011 => exact fun _ _ _ h => h
            case hS4011 => exact ⟨keep1 bw yb, keep1 bw z0, keep1 bw z1, keep1 bw z2, keep1 bw z3⟩
            case hy4011 => refine Or.inl ⟨by rfl, ?_⟩; intro w hSw; (try dsimp only at hSw); go_simp; (try with_reducible rfl)
            simp only [Act.put, List.setIfInBounds_toArray, List.set_cons_zero, List.set_cons_succ]
            refine wpAnyH_take (i := 14) (oi := ?oi4012) (v := ?v4012) ?hi4012 ?hs4012 ?hf4012 ?hr4012 ?hQ4012 ?hy4012 ?hS4012 ?hrest4012
            case hi4012 => (conv => lhs; simp only [List.getElem?_toArray, List.getElem?_cons_zero, List.getElem?_cons_succ]); try exact rfl
            case hs4012 => kernel_rfl
            case hf4012 => kernel_rfl
            case hr4012 => kernel_rfl
            case hQ4012 => exact fun _ _ _ h => h
            case hS4012 => exact ⟨keep1 bw yb, keep1 bw z0, keep1 bw z1, keep1 bw z2, keep1 bw z3⟩
            case hy4012 => refine Or.inl ⟨by rfl, ?_⟩; intro w hSw; (try dsimp only at hSw); go_simp; (try with_reducible rfl)
            simp only [Act.put, List.setIfInBounds_toArray, List.set_cons_zero, List.set_cons_succ]
            refine wpAnyH_ready (rs := [2, 6, 15]) (by kernel_rfl) (by simp) ?_
            refine AllReadyH.cons (o := ?oi4013) ?hi4013 (fun K hK => ?br4013) (AllReadyH.cons (o := ?oi4014) ?hi4014 (fun K hK => ?br4014) (AllReadyH.cons (o := ?oi4015) ?hi4015 (fun K hK => ?br4015) AllReadyH.nil))
            case hi4013 => (conv => lhs; simp only [List.getElem?_toArray, List.getElem?_cons_zero, List.getElem?_cons_succ]); try exact rfl
            case hi4014 => (conv => lhs; simp only [List.getElem?_toArray, List.getElem?_cons_zero, List.getElem?_cons_succ]); try exact rfl
            case hi4015 => (conv => lhs; simp only [List.getElem?_toArray, List.getElem?_cons_zero, List.getElem?_cons_succ]); try exact rfl
            case br4013 =>
             go_simp
             refine hK.out _ _ (by exact ⟨keep1 (belA bw (.cells #[] 40)) yb, keep1 (belA bw (.cells #[] 40)) z0, keep1 (belA bw (.cells #[] 40)) z1, keep1 (belA bw (.cells #[] 40)) z2, keep1 (belA bw (.cells #[] 40)) z3⟩) (fun _ => ?_)
             clear hK K
             try simp only [Act.put, List.setIfInBounds_toArray, List.set_cons_zero, List.set_cons_succ]
             refine foldH ?_
             intro q hq
             obtain ⟨aLa, ha⟩ : ∃ g, r.heap.size = g := ⟨_, rfl⟩
             rw [ha]
             have bw2 : Below w.heap.size w q := by rw [hq]; exact belA bw _
             have oLa2 : q.ownsRow w.heap.size 40 4 (.slice (some ⟨aLa, 0, none⟩) (0) 0) (0) ([]) := by rw [hq, ← ha]; exact own_lit0 _ _ _ _ bw.size
             exact key_c1_2 aLa q ⟨bw2, oLa2⟩
            case br4014 =>
             have x_0 := keep1 bw ya
             go_simp
             refine hK.out _ _ (by exact ⟨keep1 bw yb, keep1 bw z0, keep1 bw z1, keep1 bw z2, keep1 bw z3⟩) (fun _ => ?_)
             clear hK K
             try simp only [Act.put, List.setIfInBounds_toArray, List.set_cons_zero, List.set_cons_succ]
             have bw2 := bw
             exact key_c1_6  r bw2
            case br4015 =>
             go_simp
             refine hK.out _ _ (by exact ⟨keep1 (belA bw (.cells #[.int .i64 e.h, .int .i64 e.i, .string e.s, .int .i64 e.d] 40)) yb, keep1 (belA bw (.cells #[.int .i64 e.h, .int .i64 e.i, .string e.s, .int .i64 e.d] 40)) z0, keep1 (belA bw (.cells #[.int .i64 e.h, .int .i64 e.i, .string e.s, .int .i64 e.d] 40)) z1, keep1 (belA bw (.cells #[.int .i64 e.h, .int .i64 e.i, .string e.s, .int .i64 e.d] 40)) z2, keep1 (belA bw (.cells #[.int .i64 e.h, .int .i64 e.i, .string e.s, .int .i64 e.d] 40)) z3⟩) (fun _ => ?_)
             clear hK K
             try simp only [Act.put, List.setIfInBounds_toArray, List.set_cons_zero, List.set_cons_succ]
             refine foldH ?_
             intro q hq
             obtain ⟨aLb, ha⟩ : ∃ g, r.heap.size = g := ⟨_, rfl⟩
             rw [ha]
             have bw2 : Below w.heap.size w q := by rw [hq]; exact belA bw _
             have oLb2 : q.ownsRow w.heap.size 40 4 (.slice (some ⟨aLb, 0, none⟩) (1) 1) (1) (ES [e]) := by rw [hq, ← ha]; exact own_lit1 _ _ _ _ _ _ _ bw.size
             exact key_c1_15 aLb q ⟨bw2, oLb2⟩
           case key =>
            rintro aLa r ⟨bw, oLa⟩
            try dsimp only
            refine wpAnyH_ready (rs := [6, 15]) (by kernel_rfl) (by simp) ?_
            refine AllReadyH.cons (o := ?oi4016) ?hi4016 (fun K hK => ?br4016) (AllReadyH.cons (o := ?oi4017) ?hi4017 (fun K hK => ?br4017) AllReadyH.nil)
            case hi4016 => (conv => lhs; simp only [List.getElem?_toArray, List.getElem?_cons_zero, List.getElem?_cons_succ]); try exact rfl
            case hi4017 => (conv => lhs; simp only [List.getElem?_toArray, List.getElem?_cons_zero, List.getElem?_cons_succ]); try exact rfl
            case br4016 =>
             have x_0 := keep1 bw ya
             go_simp
             refine hK.out _ _ (by exact ⟨keep1 bw yb, keep1 bw z0, keep1 bw z1, keep1 bw z2, keep1 bw z3⟩) (fun _ => ?_)
             clear hK K
             try simp only [Act.put, List.setIfInBounds_toArray, List.set_cons_zero, List.set_cons_succ]
             have bw2 := bw
             have oLa2 := oLa
             exact key_c1_2_6 aLa r ⟨bw2, oLa2⟩
            case br4017 =>
             go_simp
             refine hK.out _ _ (by exact ⟨keep1 (belA bw (.cells #[.int .i64 e.h, .int .i64 e.i, .string e.s, .int .i64 e.d] 40)) yb, keep1 (belA bw (.cells #[.int .i64 e.h, .int .i64 e.i, .string e.s, .int .i64 e.d] 40)) z0, keep1 (belA bw (.cells #[.int .i64 e.h, .int .i64 e.i, .string e.s, .int .i64 e.d] 40)) z1, keep1 (belA bw (.cells #[.int .i64 e.h, .int .i64 e.i, .string e.s, .int .i64 e.d] 40)) z2, keep1 (belA bw (.cells #[.int .i64 e.h, .int .i64 e.i, .string e.s, .int .i64 e.d] 40)) z3⟩) (fun _ => ?_)
             clear hK K
             try simp only [Act.put, List.setIfInBounds_toArray, List.set_cons_zero, List.set_cons_succ]
             refine foldH ?_
             intro q hq
             obtain ⟨aLb, ha⟩ : ∃ g, r.heap.size = g := ⟨_, rfl⟩
             rw [ha]
             have bw2 : Below w.heap.size w q := by rw [hq]; exact belA bw _
             have oLa2 : q.ownsRow w.heap.size 40 4 (.slice (some ⟨aLa, 0, none⟩) (0) 0) (0) ([]) := by rw [hq]; exact oLa.alloc _
             have oLb2 : q.ownsRow w.heap.size 40 4 (.slice (some ⟨aLb, 0, none⟩) (1) 1) (1) (ES [e]) := by rw [hq, ← ha]; exact own_lit1 _ _ _ _ _ _ _ bw.size
             have neLaLb : aLa ≠ aLb := by have := (oLa.lt aLa rfl).2; omega
             exact key_c1_2_15 aLa aLb q ⟨bw2, oLa2, oLb2, neLaLb⟩
          case key =>
           rintro  r bw
           try dsimp only
           refine wpAnyH_ready (rs := [2, 15]) (by kernel_rfl) (by simp) ?_
           refine AllReadyH.cons (o := ?oi4018) ?hi4018 (fun K hK => ?br4018) (AllReadyH.cons (o := ?oi4019) ?hi4019 (fun K hK => ?br4019) AllReadyH.nil)
           case hi4018 => (conv => lhs; simp only [List.getElem?_toArray, List.getElem?_cons_zero, List.getElem?_cons_succ]); try exact rfl
           case hi4019 => (conv => lhs; simp only [List.getElem?_toArray, List.getElem?_cons_zero, List.getElem?_cons_succ]); try exact rfl
           case br4018 =>
            go_simp
            refine hK.out _ _ (by exact ⟨keep1 (belA bw (.cells #[] 40)) yb, keep1 (belA bw (.cells #[] 40)) z0, keep1 (belA bw (.cells #[] 40)) z1, keep1 (belA bw (.cells #[] 40)) z2, keep1 (belA bw (.cells #[] 40)) z3⟩) (fun _ => ?_)
            clear hK K
            try simp only [Act.put, List.setIfInBounds_toArray, List.set_cons_zero, List.set_cons_succ]
            refine foldH ?_
            intro q hq
            obtain ⟨aLa, ha⟩ : ∃ g, r.heap.size = g := ⟨_, rfl⟩
            rw [ha]
            have bw2 : Below w.heap.size w q := by rw [hq]; exact belA bw _
            have oLa2 : q.ownsRow w.heap.size 40 4 (.slice (some ⟨aLa, 0, none⟩) (0) 0) (0) ([]) := by rw [hq, ← ha]; exact own_lit0 _ _ _ _ bw.size
            exact key_c1_2_6 aLa q ⟨bw2, oLa2⟩
           case br4019 =>
            go_simp
            refine hK.out _ _ (by exact ⟨keep1 (belA bw (.cells #[.int .i64 e.h, .int .i64 e.i, .string e.s, .int .i64 e.d] 40)) yb, keep1 (belA bw (.cells #[.int .i64 e.h, .int .i64 e.i, .string e.s, .int .i64 e.d] 40)) z0, keep1 (belA bw (.cells #[.int .i64 e.h, .int .i64 e.i, .string e.s, .int .i64 e.d] 40)) z1, keep1 (belA bw (.cells #[.int .i64 e.h, .int .i64 e.i, .string e.s, .int .i64 e.d] 40)) z2, keep1 (belA bw (.cells #[.int .i64 e.h, .int .i64 e.i, .string e.s, .int .i64 e.d] 40)) z3⟩) (fun _ => ?_)
            clear hK K
            try simp only [Act.put, List.setIfInBounds_toArray, List.set_cons_zero, List.set_cons_succ]
            refine foldH ?_
            intro q hq
            obtain ⟨aLb, ha⟩ : ∃ g, r.heap.size = g := ⟨_, rfl⟩
            rw [ha]
            have bw2 : Below w.heap.size w q := by rw [hq]; exact belA bw _
            have oLb2 : q.ownsRow w.heap.size 40 4 (.slice (some ⟨aLb, 0, none⟩) (1) 1) (1) (ES [e]) := by rw [hq, ← ha]; exact own_lit1 _ _ _ _ _ _ _ bw.size
            exact key_c1_6_15 aLb q ⟨bw2, oLb2⟩
         case key =>
          rintro aLb r ⟨bw, oLb⟩
          try dsimp only
          refine wpAnyH_ready (rs := [2, 6]) (by kernel_rfl) (by simp) ?_
          refine AllReadyH.cons (o := ?oi4020) ?hi4020 (fun K hK => ?br4020) (AllReadyH.cons (o := ?oi4021) ?hi4021 (fun K hK => ?br4021) AllReadyH.nil)
          case hi4020 => (conv => lhs; simp only [List.getElem?_toArray, List.getElem?_cons_zero, List.getElem?_cons_succ]); try exact rfl
          case hi4021 => (conv => lhs; simp only [List.getElem?_toArray, List.getElem?_cons_zero, List.getElem?_cons_succ]); try exact rfl
          case br4020 =>
           go_simp
           refine hK.out _ _ (by exact ⟨keep1 (belA bw (.cells #[] 40)) yb, keep1 (belA bw (.cells #[] 40)) z0, keep1 (belA bw (.cells #[] 40)) z1, keep1 (belA bw (.cells #[] 40)) z2, keep1 (belA bw (.cells #[] 40)) z3⟩) (fun _ => ?_)
           clear hK K
           try simp only [Act.put, List.setIfInBounds_toArray, List.set_cons_zero, List.set_cons_succ]
           refine foldH ?_
           intro q hq
           obtain ⟨aLa, ha⟩ : ∃ g, r.heap.size = g := ⟨_, rfl⟩
           rw [ha]
           have bw2 : Below w.heap.size w q := by rw [hq]; exact belA bw _
           have oLb2 : q.ownsRow w.heap.size 40 4 (.slice (some ⟨aLb, 0, none⟩) (1) 1) (1) (ES [e]) := by rw [hq]; exact oLb.alloc _
           have oLa2 : q.ownsRow w.heap.size 40 4 (.slice (some ⟨aLa, 0, none⟩) (0) 0) (0) ([]) := by rw [hq, ← ha]; exact own_lit0 _ _ _ _ bw.size
           have neLaLb : aLa ≠ aLb := by have := (oLb.lt aLb rfl).2; omega
           exact key_c1_2_15 aLa aLb q ⟨bw2, oLa2, oLb2, neLaLb⟩
          case br4021 =>
           have x_0 := keep1 bw ya
           go_simp
           refine hK.out _ _ (by exact ⟨keep1 bw yb, keep1 bw z0, keep1 bw z1, keep1 bw z2, keep1 bw z3⟩) (fun _ => ?_)
           clear hK K
           try simp only [Act.put, List.setIfInBounds_toArray, List.set_cons_zero, List.set_cons_succ]
           have bw2 := bw
           have oLb2 := oLb
           exact key_c1_6_15 aLb r ⟨bw2, oLb2⟩
        case key =>
         rintro aLa r ⟨bw, oLa⟩
         try dsimp only
         refine wpAnyH_ready (rs := [7, 15]) (by kernel_rfl) (by simp) ?_
         refine AllReadyH.cons (o := ?oi4022) ?hi4022 (fun K hK => ?br4022) (AllReadyH.cons (o := ?oi4023) ?hi4023 (fun K hK => ?br4023) AllReadyH.nil)
         case hi4022 => (conv => lhs; simp only [List.getElem?_toArray, List.getElem?_cons_zero, List.getElem?_cons_succ]); try exact rfl
         case hi4023 => (conv => lhs; simp only [List.getElem?_toArray, List.getElem?_cons_zero, List.getElem?_cons_succ]); try exact rfl
         case br4022 =>
          refine step_appX _ (by rfl) _ _ 30 (by rfl) Tryz.el_ent oLa (by rfl) (Reads.of_own (own_below oa.out bw (Nat.le_refl _))) (by rfl) (ES_cells _) (by unfold maxLen; omega) (by omega) bw.size ?_
          intro v q ow hg hor hb
          rw [Nat.zero_add, List.nil_append] at ow
          obtain ⟨bRa, cRa, rfl⟩ := own_form1 ow (by omega)
          have bw2 := bw.trans hb
          have oRa2 : q.ownsRow w.heap.size 40 4 (.slice (some ⟨bRa, 0, none⟩) (a.xs.length) cRa) (a.xs.length) (ES a.xs) := ow
          try simp only [Act.put, List.setIfInBounds_toArray, List.set_cons_zero, List.set_cons_succ]
          refine hK.out _ _ (by exact ⟨keep1 bw2 yb, keep1 bw2 z0, keep1 bw2 z1, keep1 bw2 z2, keep1 bw2 z3⟩) (fun _ => ?_)
          clear hK K
          try simp only [Act.put, List.setIfInBounds_toArray, List.set_cons_zero, List.set_cons_succ]
          exact key_c1_2_6_7 aLa bRa cRa q ⟨bw2, oRa2⟩
         case br4023 =>
          go_simp
          refine hK.out _ _ (by exact ⟨keep1 (belA bw (.cells #[.int .i64 e.h, .int .i64 e.i, .string e.s, .int .i64 e.d] 40)) yb, keep1 (belA bw (.cells #[.int .i64 e.h, .int .i64 e.i, .string e.s, .int .i64 e.d] 40)) z0, keep1 (belA bw (.cells #[.int .i64 e.h, .int .i64 e.i, .string e.s, .int .i64 e.d] 40)) z1, keep1 (belA bw (.cells #[.int .i64 e.h, .int .i64 e.i, .string e.s, .int .i64 e.d] 40)) z2, keep1 (belA bw (.cells #[.int .i64 e.h, .int .i64 e.i, .string e.s, .int .i64 e.d] 40)) z3⟩) (fun _ => ?_)
          clear hK K
          try simp only [Act.put, List.setIfInBounds_toArray, List.set_cons_zero, List.set_cons_succ]
          refine foldH ?_
          intro q hq
          obtain ⟨aLb, ha⟩ : ∃ g, r.heap.size = g := ⟨_, rfl⟩
          rw [ha]
          have bw2 : Below w.heap.size w q := by rw [hq]; exact belA bw _
          have oLa2 : q.ownsRow w.heap.size 40 4 (.slice (some ⟨aLa, 0, none⟩) (0) 0) (0) ([]) := by rw [hq]; exact oLa.alloc _
          have oLb2 : q.ownsRow w.heap.size 40 4 (.slice (some ⟨aLb, 0, none⟩) (1) 1) (1) (ES [e]) := by rw [hq, ← ha]; exact own_lit1 _ _ _ _ _ _ _ bw.size
          have neLaLb : aLa ≠ aLb := by have := (oLa.lt aLa rfl).2; omega
          exact key_c1_2_6_15 aLa aLb q ⟨bw2, oLa2, oLb2, neLaLb⟩
       case key =>
        rintro aLa aLb r ⟨bw, oLa, oLb, neLaLb⟩
        try dsimp only
        refine wpAnyH_ready (rs := [6]) (by kernel_rfl) (by simp) ?_
        refine AllReadyH.cons (o := ?oi4024) ?hi4024 (fun K hK => ?br4024) AllReadyH.nil
        case hi4024 => (conv => lhs; simp only [List.getElem?_toArray, List.getElem?_cons_zero, List.getElem?_cons_succ]); try exact rfl
        case br4024 =>
         have x_0 := keep1 bw ya
         go_simp
         refine hK.out _ _ (by exact ⟨keep1 bw yb, keep1 bw z0, keep1 bw z1, keep1 bw z2, keep1 bw z3⟩) (fun _ => ?_)
         clear hK K
         try simp only [Act.put, List.setIfInBounds_toArray, List.set_cons_zero, List.set_cons_succ]
         have bw2 := bw
         have oLa2 := oLa
         have oLb2 := oLb
         exact key_c1_2_6_15 aLa aLb r ⟨bw2, oLa2, oLb2, neLaLb⟩
      case key =>
       rintro aLb r ⟨bw, oLb⟩
       try dsimp only
       refine wpAnyH_ready (rs := [2]) (by kernel_rfl) (by simp) ?_
       refine AllReadyH.cons (o := ?oi4025) ?hi4025 (fun K hK => ?br4025) AllReadyH.nil
       case hi4025 => (conv => lhs; simp only [List.getElem?_toArray, List.getElem?_cons_zero, List.getElem?_cons_succ]); try exact rfl
       case br4025 =>
        go_simp
        refine hK.out _ _ (by exact ⟨keep1 (belA bw (.cells #[] 40)) yb, keep1 (belA bw (.cells #[] 40)) z0, keep1 (belA bw (.cells #[] 40)) z1, keep1 (belA bw (.cells #[] 40)) z2, keep1 (belA bw (.cells #[] 40)) z3⟩) (fun _ => ?_)
        clear hK K
        try simp only [Act.put, List.setIfInBounds_toArray, List.set_cons_zero, List.set_cons_succ]
        refine foldH ?_
        intro q hq
        obtain ⟨aLa, ha⟩ : ∃ g, r.heap.size = g := ⟨_, rfl⟩
        rw [ha]
        have bw2 : Below w.heap.size w q := by rw [hq]; exact belA bw _
        have oLb2 : q.ownsRow w.heap.size 40 4 (.slice (some ⟨aLb, 0, none⟩) (1) 1) (1) (ES [e]) := by rw [hq]; exact oLb.alloc _
        have oLa2 : q.ownsRow w.heap.size 40 4 (.slice (some ⟨aLa, 0, none⟩) (0) 0) (0) ([]) := by rw [hq, ← ha]; exact own_lit0 _ _ _ _ bw.size
        have neLaLb : aLa ≠ aLb := by have := (oLb.lt aLb rfl).2; omega
        exact key_c1_2_6_15 aLa aLb q ⟨bw2, oLa2, oLb2, neLaLb⟩
     case key =>
      rintro aLa bRa cRa r ⟨bw, oRa⟩
      try dsimp only
      refine wpAnyH_ready (rs := [15]) (by kernel_rfl) (by simp) ?_
      refine AllReadyH.cons (o := ?oi4026) ?hi4026 (fun K hK => ?br4026) AllReadyH.nil
      case hi4026 => (conv => lhs; simp only [List.getElem?_toArray, List.getElem?_cons_zero, List.getElem?_cons_succ]); try exact rfl
      case br4026 =>
       go_simp
       refine hK.out _ _ (by exact ⟨keep1 (belA bw (.cells #[.int .i64 e.h, .int .i64 e.i, .string e.s, .int .i64 e.d] 40)) yb, keep1 (belA bw (.cells #[.int .i64 e.h, .int .i64 e.i, .string e.s, .int .i64 e.d] 40)) z0, keep1 (belA bw (.cells #[.int .i64 e.h, .int .i64 e.i, .string e.s, .int .i64 e.d] 40)) z1, keep1 (belA bw (.cells #[.int .i64 e.h, .int .i64 e.i, .string e.s, .int .i64 e.d] 40)) z2, keep1 (belA bw (.cells #[.int .i64 e.h, .int .i64 e.i, .string e.s, .int .i64 e.d] 40)) z3⟩) (fun _ => ?_)
       clear hK K
       try simp only [Act.put, List.setIfInBounds_toArray, List.set_cons_zero, List.set_cons_succ]
       refine foldH ?_
       intro q hq
       obtain ⟨aLb, ha⟩ : ∃ g, r.heap.size = g := ⟨_, rfl⟩
       rw [ha]
       have bw2 : Below w.heap.size w q := by rw [hq]; exact belA bw _
       have oRa2 : q.ownsRow w.heap.size 40 4 (.slice (some ⟨bRa, 0, none⟩) (a.xs.length) cRa) (a.xs.length) (ES a.xs) := by rw [hq]; exact oRa.alloc _
       have oLb2 : q.ownsRow w.heap.size 40 4 (.slice (some ⟨aLb, 0, none⟩) (1) 1) (1) (ES [e]) := by rw [hq, ← ha]; exact own_lit1 _ _ _ _ _ _ _ bw.size
       have neLbRa : aLb ≠ bRa := by have := (oRa.lt bRa rfl).2; omega
       exact key_c1_2_6_7_15 aLa aLb bRa cRa q ⟨bw2, oLb2, oRa2, neLbRa⟩
    case key =>
     rintro aLa aLb r ⟨bw, oLa, oLb, neLaLb⟩
     try dsimp only
     refine wpAnyH_ready (rs := [7]) (by kernel_rfl) (by simp) ?_
     refine AllReadyH.cons (o := ?oi4027) ?hi4027 (fun K hK => ?br4027) AllReadyH.nil
     case hi4027 => (conv => lhs; simp only [List.getElem?_toArray, List.getElem?_cons_zero, List.getElem?_cons_succ]); try exact rfl
     case br4027 =>
      refine step_appX _ (by rfl) _ _ 30 (by rfl) Tryz.el_ent oLa (by rfl) (Reads.of_own (own_below oa.out bw (Nat.le_refl _))) (by rfl) (ES_cells _) (by unfold maxLen; omega) (by omega) bw.size ?_
      intro v q ow hg hor hb
      rw [Nat.zero_add, List.nil_append] at ow
      obtain ⟨bRa, cRa, rfl⟩ := own_form1 ow (by omega)
      have bw2 := bw.trans hb
      have oLb2 : q.ownsRow w.heap.size 40 4 (.slice (some ⟨aLb, 0, none⟩) (1) 1) (1) (ES [e]) := own_keepG oLb hg (fun e => neLaLb (by simp only [Value.ownBlock, Option.some.injEq] at e; omega))
      have neLbRa : aLb ≠ bRa := by have h1 := (oLb.lt aLb rfl).2; have h2 := neLaLb; simp only [Value.ownBlock, Option.some.injEq] at hor; omega
      have oRa2 : q.ownsRow w.heap.size 40 4 (.slice (some ⟨bRa, 0, none⟩) (a.xs.length) cRa) (a.xs.length) (ES a.xs) := ow
      try simp only [Act.put, List.setIfInBounds_toArray, List.set_cons_zero, List.set_cons_succ]
      refine hK.out _ _ (by exact ⟨keep1 bw2 yb, keep1 bw2 z0, keep1 bw2 z1, keep1 bw2 z2, keep1 bw2 z3⟩) (fun _ => ?_)
      clear hK K
      try simp only [Act.put, List.setIfInBounds_toArray, List.set_cons_zero, List.set_cons_succ]
      exact key_c1_2_6_7_15 aLa aLb bRa cRa q ⟨bw2, oLb2, oRa2, neLbRa⟩
   case key =>
    rintro aLa aLb bRa cRa r ⟨bw, oLb, oRa, neLbRa⟩
    try dsimp only
    refine wpAnyH_ready (rs := [16]) (by kernel_rfl) (by simp) ?_
    refine AllReadyH.cons (o := ?oi4028) ?hi4028 (fun K hK => ?br4028) AllReadyH.nil
    case hi4028 => (conv => lhs; simp only [List.getElem?_toArray, List.getElem?_cons_zero, List.getElem?_cons_succ]); try exact rfl
    case br4028 =>
     refine step_appX _ (by rfl) _ _ 30 (by rfl) Tryz.el_ent oRa (by rfl) (Reads.of_own oLb) (by rfl) (ES_cells _) (by unfold maxLen; omega) (by omega) bw.size ?_
     intro v q ow hg hor hb
     obtain ⟨bRb, cRb, rfl⟩ := own_form1 ow (by omega)
     have bw2 := bw.trans hb
     have oLb2 : q.ownsRow w.heap.size 40 4 (.slice (some ⟨aLb, 0, none⟩) (1) 1) (1) (ES [e]) := own_keepG oLb hg (fun e => neLbRa (by simp only [Value.ownBlock, Option.some.injEq] at e; omega))
     have neLbRb : aLb ≠ bRb := by have h1 := (oLb.lt aLb rfl).2; have h2 := neLbRa; simp only [Value.ownBlock, Option.some.injEq] at hor; omega
     have oRb2 : q.ownsRow w.heap.size 40 4 (.slice (some ⟨bRb, 0, none⟩) (a.xs.length + 1) cRb) (a.xs.length + 1) (ES a.xs ++ ES [e]) := ow
     try simp only [Act.put, List.setIfInBounds_toArray, List.set_cons_zero, List.set_cons_succ]
     refine hK.out _ _ (by exact ⟨keep1 bw2 yb, keep1 bw2 z0, keep1 bw2 z1, keep1 bw2 z2, keep1 bw2 z3⟩) (fun _ => ?_)
     clear hK K
     try simp only [Act.put, List.setIfInBounds_toArray, List.set_cons_zero, List.set_cons_succ]
     refine wpAnyH_take (i := 17) (oi := ?oi4029) (v := ?v4029) ?hi4029 ?hs4029 ?hf4029 ?hr4029 ?hQ4029 ?hy4029 ?hS4029 ?hrest4029
     case hi4029 => (conv => lhs; simp only [List.getElem?_toArray, List.getElem?_cons_zero, List.getElem?_cons_succ]); try exact rfl
     case hs4029 => kernel_rfl
     case hf4029 => kernel_rfl
     case hr4029 => kernel_rfl
     case hQ4029 => exact fun _ _ _ h => h
     case hS4029 => exact ⟨keep1 bw2 yb, keep1 bw2 z0, keep1 bw2 z1, keep1 bw2 z2, keep1 bw2 z3⟩
     case hy4029 => refine Or.inl ⟨by rfl, ?_⟩; intro w hSw; (try dsimp only at hSw); go_simp; (try with_reducible rfl)
     simp only [Act.put, List.setIfInBounds_toArray, List.set_cons_zero, List.set_cons_succ]
     exact key_c1_2_6_7_15_16 aLa aLb bRa bRb cRa cRb q ⟨bw2, oLb2, oRb2, neLbRb⟩
  case key =>
   rintro aLa aLb bRa bRb cRa cRb r ⟨bw, oLb, oRb, neLbRb⟩
   try dsimp only
   refine wpAnyH_ready (rs := [18]) (by kernel_rfl) (by simp) ?_
   refine AllReadyH.cons (o := ?oi4030) ?hi4030 (fun K hK => ?br4030) AllReadyH.nil
   case hi4030 => (conv => lhs; simp only [List.getElem?_toArray, List.getElem?_cons_zero, List.getElem?_cons_succ]); try exact rfl
   case br4030 =>
    have Yr := own_below hY.out bw (Nat.le_refl _)
    have x_0 := keep1 bw ya
    have f_0 := own_frozen Yr k
    go_simp
    refine hK.out _ _ (by exact ⟨cellS (keep1 bw yb) (fun e => nki (by injection e)), cellS (keep1 bw z0) nb0, cellS (keep1 bw z1) nb1, cellS (keep1 bw z2) nb2, cellS (keep1 bw z3) nb3⟩) (fun _ => ?_)
    clear hK K
    try simp only [Act.put, List.setIfInBounds_toArray, List.set_cons_zero, List.set_cons_succ]
    refine wpAnyH_done (by kernel_rfl) ?_ _
    obtain ⟨q, hq⟩ : ∃ y : PgD, y = ⟨bRb, cRb, a.xs ++ [e], a.xs.length + 1, cRb⟩ := ⟨_, rfl⟩
    have hqv : q.val = .slice (some ⟨bRb, 0, none⟩) (a.xs.length + 1) cRb := by rw [hq]; rfl
    have hql : (a.xs ++ [e]).length = a.xs.length + 1 := by simp
    have hqd : OwnD r lo q := by
      rw [hq]
      refine ⟨?_, by simp only [hql]; exact Nat.le_refl _⟩
      simp only [hql]
      have h := own_more oRb hlo
      simp only [← ES_append] at h
      exact h
    have HP12 := hO.out.set (w' := r) (q := q) kL (gb_new bw) hqd (.inr (by rw [hq]; exact (own_some oRb).1))
    have HP13 := Lib.hid (HP12.app Yr (show r.grownBy (r.setCell ⟨g0, k, none⟩ (.slice (some ⟨bRb, 0, none⟩) (a.xs.length + 1) cRb)) (some g0) from only_sc (grown_refl _ _) k _))
    have y := own_set Yr k q.val
    rw [PV_set, hqv] at y
    have Y13 := Lib.hid y
    have B13 := Lib.hid ((bw.mono hlo).setCell (p := ⟨g0, k, none⟩) lg0 (.slice (some ⟨bRb, 0, none⟩) (a.xs.length + 1) cRb))
    have hz13 := Lib.hid (hZ.out.set (k := k) (q := q) (by rw [hq]; exact ⟨⟨hql.symm, rfl⟩, by simp only [hql]; omega, by simp only [hql]; omega, fun x hx => (List.mem_append.1 hx).elim (Na.out x) (fun h => by rw [List.mem_singleton] at h; rw [h, ← he]; exact Nb.out _ (List.getElem_mem _))⟩))
    have hsl : (L.set k q).length = n := by rw [List.length_set]; exact hN
    clear y bw Yr oRb oLb HP12 hqd x_0 f_0 hq hqv hql neLbRb
    generalize (r.setCell ⟨g0, k, none⟩ (.slice (some ⟨bRb, 0, none⟩) (a.xs.length + 1) cRb)) = w13 at B13 HP13 Y13 ⊢
    have l13 : lo ≤ w13.heap.size := by have := (Y13.out.lt g0 rfl).2; omega
    have kb : i < (L.set k q).length := by rw [List.length_set]; omega
    have hbb : (L.set k q)[i] = b := by rw [List.getElem_set_ne nki]; exact hb'
    have hbm : b ∈ L.set k q := by rw [← hbb]; exact List.getElem_mem _
    have hdb := HP13.out.1 b hbm
    have hsub := hdb.sub 1
    have hbc : b.xs.length ≤ b.c := by obtain ⟨_, _, _, h, _⟩ := own_some hdb.1; exact h
    have y13 := Y13.out.cellAt i (by omega)
    rw [PV_get _ i kb, hbb, vb] at y13
    have c1 : ¬ (b.c = 1) := by omega
    have c2 : (1 : Int) ≤ ((b.xs.length : Nat) : Int) := by omega
    have c3 : 1 ≤ b.xs.length := by omega
    have f13 := own_frozen Y13.out i
    have HR := Lib.hid hsub
    have hlit := Lib.hid (own_lit0 w13 40 4 w13.heap.size (Nat.le_refl _))
    have Hs := Lib.hid hsl
    have y13a := keep1 (belA (bel0 w13) (.cells #[] 40)) y13
    clear hsub hdb hbm hsl
    go_wp2_with (at_builtin; refine wpList_app _ rfl _ _ _ rfl Tryz.el_ent hlit.out rfl ((HR.out.below (belA (bel0 w13) _)).more (Nat.le_succ _)) rfl (ES_cells _) (by unfold maxLen; omega) (by omega) (by simp) ?_; intro v14 w14 own14 hg14 hor14 hb14x; rw [Nat.zero_add, List.nil_append] at own14; obtain ⟨g14, c14, rfl⟩ := own_form1 own14 (by omega); have hb14 := (belA (bel0 w13) (.cells #[] 40)).trans hb14x; have y14 := keep1 hb14 y13; have f14 := own_frozen (own_below Y13.out hb14 (Nat.le_refl _)) i; have O14 := Lib.hid own14; clear own14 hg14 hor14 hb14x)
    obtain ⟨rp, hrp⟩ : ∃ q : PgD, q = ⟨g14, c14, b.xs.drop 1, b.xs.length - 1, c14⟩ := ⟨_, rfl⟩
    have hrv : rp.val = .slice (some ⟨g14, 0, none⟩) (b.xs.length - 1) c14 := by rw [hrp]; rfl
    have hrl : (b.xs.drop 1).length = b.xs.length - 1 := by simp
    have hrd : OwnD w14 lo rp := by
      rw [hrp]
      refine ⟨?_, by simp only [hrl]; exact Nat.le_refl _⟩
      simp only [hrl]
      exact own_more O14.out l13
    have HP14 := HP13.out.set kb (gb_new hb14) hrd (.inr (by rw [hrp]; exact (own_some O14.out).1))
    have Y14 := own_below Y13.out hb14 (Nat.le_refl _)
    have HP15 := Lib.hid (HP14.app Y14 (show w14.grownBy (w14.setCell ⟨g0, i, none⟩ (.slice (some ⟨g14, 0, none⟩) (b.xs.length - 1) c14)) (some g0) from only_sc (grown_refl _ _) i _))
    have y := own_set Y14 i rp.val
    rw [PV_set, hrv] at y
    have Y15 := Lib.hid y
    have B15 := Lib.hid ((B13.out.trans (hb14.mono l13)).setCell (p := ⟨g0, i, none⟩) lg0 (.slice (some ⟨g14, 0, none⟩) (b.xs.length - 1) c14))
    have hz15 := Lib.hid (hz13.out.set (k := i) (q := rp) (by rw [hrp]; exact ⟨⟨hrl.symm, rfl⟩, by simp only [hrl]; omega, by simp only [hrl]; omega, fun x hx => Nb.out x (List.mem_of_mem_drop hx)⟩))
    have hsl2 : ((L.set k q).set i rp).length = n := by rw [List.length_set]; exact Hs.out
    have HS := Lib.hid (hz15.out.sm (by omega))
    refine bodyPost_ret (v := .slice (some ⟨g0, 0, none⟩) n c0) (by simp [results, Tryz.results91, go_sem]) rfl ⟨fillOut_end HP15.out hsl2 Y15.out HS.out, B15.out⟩

set_option maxRecDepth 100000 in
set_option maxHeartbeats 4000000 in
theorem fill_2a (N lo g0 n c0 k : Nat) (L : List PgD) (w : World) (hN : L.length = n) (h8 : n ≤ 8) (_hk : k < n) (hz : FzL N L) (HO : OwnP w lo L) (HY : w.ownsRow lo 30 1 (.slice (some ⟨g0, 0, none⟩) n c0) n (PV L))
    (hc : k + 1 = n) (h1 : ∀ (h : k < L.length), L[k].xs.length = 1) (k0 : 0 < k) (h3 : ∀ (h : k - 1 < L.length), 2 < L[k - 1].xs.length) :
    Calls Tryz.prog 91 #[.slice (some ⟨g0, 0, none⟩) n c0, .int .i64 k] w fun r w' => FillOut N lo r w' ∧ Below lo w w' := by
  have hf := hz.f
  have hO := Lib.hid HO
  have hY := Lib.hid HY
  have hZ := Lib.hid hz
  have hlo : lo ≤ w.heap.size := by have := HY.lt g0 rfl; omega
  have lg0 := (HY.lt g0 rfl).1
  have lg1 := (HY.lt g0 rfl).2
  have kL : k < L.length := by omega
  have q0 : (0 : Int) ≤ (k : Int) := by omega
  have q1 : (k : Int) < (n : Int) := by omega
  obtain ⟨a, ha, ma, da, va, ya, ca, nea⟩ := pgf HO HY hf (k := k) (kL)
  have oa := Lib.hid da.1
  obtain ⟨fa, za, la, na⟩ := hz _ ma
  have Na := Lib.hid na
  clear na
  have a1 : a.xs.length = 1 := by rw [← ha]; exact h1 kL
  have e0 : ((n : Int) == 1) = false := beq_eq_false_iff_ne.2 (by omega)
  have e1 : (((a.xs.length : Nat) : Int) == 0) = false := beq_eq_false_iff_ne.2 (by omega)
  have e2 : ¬ (((a.xs.length : Nat) : Int) ≥ 2) := by omega
  have e3 : ¬ ((2 : Int) ≤ ((a.xs.length : Nat) : Int)) := by omega
  have a2 : a.xs.length ≤ 1 := by omega
  clear a1
  have pL : k - 1 < L.length := by omega
  obtain ⟨p, hp, mp, dp, vp, yp, cp, nep⟩ := pgf HO HY hf (k := k - 1) (pL)
  have op := Lib.hid dp.1
  obtain ⟨fp, zp, lp, np⟩ := hz _ mp
  have Np := Lib.hid np
  clear np
  have p2 : 2 < p.xs.length := by have := h3 (by omega); rw [hp] at this; exact this
  obtain ⟨j, hj⟩ : ∃ j, j = k - 1 := ⟨_, rfl⟩
  rw [← hj] at yp
  have jL' : j < L.length := by omega
  have hp' : L[j] = p := by subst hj; exact hp
  have wj : IntKind.i64.wrap ((k : Int) - 1) = (j : Int) := by rw [IntKind.wrap_i64]; omega
  have r7 : (k : Int) > 0 := by omega
  have r8 : (0 : Int) ≤ (j : Int) := by omega
  have r9 : (j : Int) < (n : Int) := by omega
  have ra : ((p.xs.length : Nat) : Int) > 2 := by omega
  have rb : (2 : Int) < ((p.xs.length : Nat) : Int) := by omega
  have rc : (0 : Int) < (k : Int) := by omega
  have njk : j ≠ k := by omega
  have jL : j < L.length := by omega
  obtain ⟨m, hm⟩ : ∃ m, m = p.xs.length - 1 := ⟨_, rfl⟩
  have mlt : m < p.xs.length := by omega
  obtain ⟨hk0, bb, oo, hbo, _, z0, z1, z2, z3⟩ := reads_ent (Reads.of_own op.out) mlt
  simp only [Option.some.injEq, Addr.mk.injEq, and_true] at hbo
  obtain ⟨rfl, rfl⟩ := hbo
  simp only [Nat.zero_add] at z0 z1 z2 z3
  obtain ⟨e, he⟩ : ∃ e, p.xs[m] = e := ⟨_, rfl⟩
  rw [he] at z0 z1 z2 z3
  have wm : IntKind.i64.wrap (((p.xs.length : Nat) : Int) - 1) = (m : Int) := by rw [IntKind.wrap_i64]; omega
  have qm1 : 2 ≤ m := by omega
  have qm8 : (0 : Int) ≤ (m : Int) := by omega
  have qm9 : (m : Int) < ((p.xs.length : Nat) : Int) := by omega
  have hpc : p.xs.length ≤ p.c := by obtain ⟨_, _, _, h, _⟩ := own_some dp.1; exact h
  have qmc : (m : Int) ≤ (p.c : Int) := by omega
  have qmd : m ≤ p.c := by omega
  have npg : p.g ≠ g0 := fun e => nep (by rw [e])
  have nb0 : (⟨g0, k, none⟩ : Addr) ≠ ⟨p.g, m * 4, none⟩ := fun e => npg (by injection e with e; exact e.symm)
  have nb1 : (⟨g0, k, none⟩ : Addr) ≠ ⟨p.g, m * 4 + 1, none⟩ := fun e => npg (by injection e with e; exact e.symm)
  have nb2 : (⟨g0, k, none⟩ : Addr) ≠ ⟨p.g, m * 4 + 2, none⟩ := fun e => npg (by injection e with e; exact e.symm)
  have nb3 : (⟨g0, k, none⟩ : Addr) ≠ ⟨p.g, m * 4 + 3, none⟩ := fun e => npg (by injection e with e; exact e.symm)
  have wk : IntKind.i64.wrap ((k : Int) + 1) = (k : Int) + 1 := by rw [IntKind.wrap_i64]; omega
  have qn : ¬ ((k : Int) + 1 < (n : Int)) := by omega
  clear HO HY hz hf h1 h3 ha hp va hj hm
  go_enter Tryz.func91, Tryz.ntmps91
  go_wp2_with fail
  refine wp_region_held_drew (S := fun w' => w'.cell? ⟨g0, j, none⟩ = some (.slice (some ⟨p.g, 0, none⟩) p.xs.length p.c) ∧ w'.cell? ⟨p.g, m * 4, none⟩ = some (.int .i64 e.h) ∧ w'.cell? ⟨p.g, m * 4 + 1, none⟩ = some (.int .i64 e.i) ∧ w'.cell? ⟨p.g, m * 4 + 2, none⟩ = some (.string e.s) ∧ w'.cell? ⟨p.g, m * 4 + 3, none⟩ = some (.int .i64 e.d)) (by kernel_rfl) (by exact ⟨yp, z0, z1, z2, z3⟩) (fun hHeld => ?_)
  clear hHeld
  refine foldH ?_
  intro r hr0
  have bw : Below w.heap.size w r := by rw [hr0]; exact (bel0 w).drew
  clear hr0
  apply mem3_nnnw (P := fun aLa bRa cRa q => Below w.heap.size w q ∧ q.ownsRow w.heap.size 40 4 (.slice (some ⟨bRa, 0, none⟩) (1 + a.xs.length) cRa) (1 + a.xs.length) (ES [e] ++ ES a.xs))
  case use =>
   intro key_c2_10_14_15
   apply mem3_nw (P := fun aLa q => Below w.heap.size w q ∧ q.ownsRow w.heap.size 40 4 (.slice (some ⟨aLa, 0, none⟩) (1) 1) (1) (ES [e]))
   case use =>
    intro key_c2_10_14
    apply mem3_w (P := fun  q => Below w.heap.size w q)
    case use =>
     intro key_c2_14
     apply mem3_nw (P := fun aLa q => Below w.heap.size w q ∧ q.ownsRow w.heap.size 40 4 (.slice (some ⟨aLa, 0, none⟩) (1) 1) (1) (ES [e]))
     case use =>
      intro key_c2_10
      refine wpAnyH_take (i := 0) (oi := ?oi5001) (v := ?v5001) ?hi5001 ?hs5001 ?hf5001 ?hr5001 ?hQ5001 ?hy5001 ?hS5001 ?hrest5001
      case hi5001 => (conv => lhs; simp only [List.getElem?_toArray, List.getElem?_cons_zero]); try exact rfl
      case hs5001 => kernel_rfl
      case hf5001 => kernel_rfl
      case hr5001 => kernel_rfl
      case hQ5001 => exact fun _ _ _ h => h
      case hS5001 => exact ⟨keep1 bw yp, keep1 bw z0, keep1 bw z1, keep1 bw z2, keep1 bw z3⟩
      case hy5001 => refine Or.inl ⟨by rfl, ?_⟩; intro w hSw; (try dsimp only at hSw); go_simp; (try with_reducible rfl)
      simp only [Act.put, List.setIfInBounds_toArray, List.set_cons_zero, List.set_cons_succ]
      refine wpAnyH_take (i := 1) (oi := ?oi5002) (v := ?v5002) ?hi5002 ?hs5002 ?hf5002 ?hr5002 ?hQ5002 ?hy5002 ?hS5002 ?hrest5002
      case hi5002 => (conv => lhs; simp only [List.getElem?_toArray, List.getElem?_cons_zero, List.getElem?_cons_succ]); try exact rfl
      case hs5002 => kernel_rfl
      case hf5002 => kernel_rfl
      case hr5002 => kernel_rfl
      case hQ5002 => exact fun _ _ _ h => h
      case hS5002 => exact ⟨keep1 bw yp, keep1 bw z0, keep1 bw z1, keep1 bw z2, keep1 bw z3⟩
      case hy5002 => refine Or.inl ⟨by rfl, ?_⟩; intro w hSw; (try dsimp only at hSw); go_simp; (try with_reducible rfl)
      simp only [Act.put, List.setIfInBounds_toArray, List.set_cons_zero, List.set_cons_succ]
      refine wpAnyH_take (i := 2) (oi := ?oi5003) (v := ?v5003) ?hi5003 ?hs5003 ?hf5003 ?hr5003 ?hQ5003 ?hy5003 ?hS5003 ?hrest5003
      case hi5003 => (conv => lhs; simp only [List.getElem?_toArray, List.getElem?_cons_zero, List.getElem?_cons_succ]); try exact rfl
      case hs5003 => kernel_rfl
      case hf5003 => kernel_rfl
      case hr5003 => kernel_rfl
      case hQ5003 => exact fun _ _ _ h => h
      case hS5003 => exact ⟨keep1 bw yp, keep1 bw z0, keep1 bw z1, keep1 bw z2, keep1 bw z3⟩
      case hy5003 => refine Or.inl ⟨by rfl, ?_⟩; intro w hSw; (try dsimp only at hSw); go_simp; (try with_reducible rfl)
      simp only [Act.put, List.setIfInBounds_toArray, List.set_cons_zero, List.set_cons_succ]
      refine wpAnyH_take (i := 3) (oi := ?oi5004) (v := ?v5004) ?hi5004 ?hs5004 ?hf5004 ?hr5004 ?hQ5004 ?hy5004 ?hS5004 ?hrest5004
      case hi5004 => (conv => lhs; simp only [List.getElem?_toArray, List.getElem?_cons_zero, List.getElem?_cons_succ]); try exact rfl
      case hs5004 => kernel_rfl
      case hf5004 => kernel_rfl
      case hr5004 => kernel_rfl
      case hQ5004 => exact fun _ _ _ h => h
      case hS5004 => exact ⟨keep1 bw yp, keep1 bw z0, keep1 bw z1, keep1 bw z2, keep1 bw z3⟩
      case hy5004 => refine Or.inl ⟨by rfl, ?_⟩; intro w hSw; (try dsimp only at hSw); go_simp; (try with_reducible rfl)
      simp only [Act.put, List.setIfInBounds_toArray, List.set_cons_zero, List.set_cons_succ]
      refine wpAnyH_take (i := 4) (oi := ?oi5005) (v := ?v5005) ?hi5005 ?hs5005 ?hf5005 ?hr5005 ?hQ5005 ?hy5005 ?hS5005 ?hrest5005
      case hi5005 => (conv => lhs; simp only [List.getElem?_toArray, List.getElem?_cons_zero, List.getElem?_cons_succ]); try exact rfl
      case hs5005 => kernel_rfl
      case hf5005 => kernel_rfl
      case hr5005 => kernel_rfl
      case hQ5005 => exact fun _ _ _ h => h
      case hS5005 => exact ⟨keep1 bw yp, keep1 bw z0, keep1 bw z1, keep1 bw z2, keep1 bw z3⟩
      case hy5005 => refine Or.inl ⟨by rfl, ?_⟩; intro w hSw; (try dsimp only at hSw); go_simp; (try with_reducible rfl)
      simp only [Act.put, List.setIfInBounds_toArray, List.set_cons_zero, List.set_cons_succ]
      refine wpAnyH_take (i := 5) (oi := ?oi5006) (v := ?v5006) ?hi5006 ?hs5006 ?hf5006 ?hr5006 ?hQ5006 ?hy5006 ?hS5006 ?hrest5006
      case hi5006 => (conv => lhs; simp only [List.getElem?_toArray, List.getElem?_cons_zero, List.getElem?_cons_succ]); try exact rfl
      case hs5006 => kernel_rfl
      case hf5006 => kernel_rfl
      case hr5006 => kernel_rfl
      case hQ5006 => exact fun _ _ _ h => h
      case hS5006 => exact ⟨keep1 bw yp, keep1 bw z0, keep1 bw z1, keep1 bw z2, keep1 bw z3⟩
      case hy5006 => refine Or.inl ⟨by rfl, ?_⟩; intro w hSw; (try dsimp only at hSw); go_simp; (try with_reducible rfl)
      simp only [Act.put, List.setIfInBounds_toArray, List.set_cons_zero, List.set_cons_succ]
      refine wpAnyH_take (i := 6) (oi := ?oi5007) (v := ?v5007) ?hi5007 ?hs5007 ?hf5007 ?hr5007 ?hQ5007 ?hy5007 ?hS5007 ?hrest5007
      case hi5007 => (conv => lhs; simp only [List.getElem?_toArray, List.getElem?_cons_zero, List.getElem?_cons_succ]); try exact rfl
      case hs5007 => kernel_rfl
      case hf5007 => kernel_rfl
      case hr5007 => kernel_rfl
      case hQ5007 => exact fun _ _ _ h => h
      case hS5007 => exact ⟨keep1 bw yp, keep1 bw z0, keep1 bw z1, keep1 bw z2, keep1 bw z3⟩
      case hy5007 => refine Or.inl ⟨by rfl, ?_⟩; intro w hSw; (try dsimp only at hSw); go_simp; (try with_reducible rfl)
      simp only [Act.put, List.setIfInBounds_toArray, List.set_cons_zero, List.set_cons_succ]
      refine wpAnyH_take (i := 7) (oi := ?oi5008) (v := ?v5008) ?hi5008 ?hs5008 ?hf5008 ?hr5008 ?hQ5008 ?hy5008 ?hS5008 ?hrest5008
      case hi5008 => (conv => lhs; simp only [List.getElem?_toArray, List.getElem?_cons_zero, List.getElem?_cons_succ]); try exact rfl
      case hs5008 => kernel_rfl
      case hf5008 => kernel_rfl
      case hr5008 => kernel_rfl
      case hQ5008 => exact fun _ _ _ h => h
      case hS5008 => exact ⟨keep1 bw yp, keep1 bw z0, keep1 bw z1, keep1 bw z2, keep1 bw z3⟩
      case hy5008 => refine Or.inl ⟨by rfl, ?_⟩; intro w hSw; (try dsimp only at hSw); go_simp; (try with_reducible rfl)
      simp only [Act.put, List.setIfInBounds_toArray, List.set_cons_zero, List.set_cons_succ]
      refine wpAnyH_take (i := 8) (oi := ?oi5009) (v := ?v5009) ?hi5009 ?hs5009 ?hf5009 ?hr5009 ?hQ5009 ?hy5009 ?hS5009 ?hrest5009
      case hi5009 => (conv => lhs; simp only [List.getElem?_toArray, List.getElem?_cons_zero, List.getElem?_cons_succ]); try exact rfl
      case hs5009 => kernel_rfl
      case hf5009 => kernel_rfl
      case hr5009 => kernel_rfl
      case hQ5009 => exact fun _ _ _ h => h
      case hS5009 => exact ⟨keep1 bw yp, keep1 bw z0, keep1 bw z1, keep1 bw z2, keep1 bw z3⟩
      case hy5009 => refine Or.inl ⟨by rfl, ?_⟩; intro w hSw; (try dsimp only at hSw); go_simp; (try with_reducible rfl)
      simp only [Act.put, List.setIfInBounds_toArray, List.set_cons_zero, List.set_cons_succ]
      refine wpAnyH_take (i := 9) (oi := ?oi5010) (v := ?v5010) ?hi5010 ?hs5010 ?hf5010 ?hr5010 ?hQ5010 ?hy5010 ?hS5010 ?hrest5010
      case hi5010 => (conv => lhs; simp only [List.getElem?_toArray, List.getElem?_cons_zero, List.getElem?_cons_succ]); try exact rfl
      case hs5010 => kernel_rfl
      case hf5010 => kernel_rfl
      case hr5010 => kernel_rfl
      case hQ5010 => exact fun _ _ _ h => h
      case hS5010 => exact ⟨keep1 bw yp, keep1 bw z0, keep1 bw z1, keep1 bw z2, keep1 bw z3⟩
      case hy5010 => refine Or.inl ⟨by rfl, ?_⟩; intro w hSw; (try dsimp only at hSw); go_simp; (try with_reducible rfl)
      simp only [Act.put, List.setIfInBounds_toArray, List.set_cons_zero, List.set_cons_succ]
      refine wpAnyH_take (i := 11) (oi := ?oi5011) (v := ?v5011) ?hi5011 ?hs5011 ?hf5011 ?hr5011 ?hQ5011 ?hy5011 ?hS5011 ?hrest5011
      case hi5011 => (conv => lhs; simp only [List.getElem?_toArray, List.getElem?_cons_zero, List.getElem?_cons_succ]); try exact rfl
      case hs5011 => kernel_rfl
      case hf5011 => kernel_rfl
      case hr5011 => kernel_rfl
      case hQ5011 => exact fun _ _ _ h => h
      case hS5011 => exact ⟨keep1 bw yp, keep1 bw z0, keep1 bw z1, keep1 bw z2, keep1 bw z3⟩
      case hy5011 => refine Or.inl ⟨by rfl, ?_⟩; intro w hSw; (try dsimp only at hSw); go_simp; (try with_reducible rfl)
      simp only [Act.put, List.setIfInBounds_toArray, List.set_cons_zero, List.set_cons_succ]
      refine wpAnyH_take (i := 12) (oi := ?oi5012) (v := ?v5012) ?hi5012 ?hs5012 ?hf5012 ?hr5012 ?hQ5012 ?hy5012 ?hS5012 ?hrest5012
      case hi5012 => (conv => lhs; simp only [List.getElem?_toArray, List.getElem?_cons_zero, List.getElem?_cons_succ]); try exact rfl
      case hs5012 => kernel_rfl
      case hf5012 => kernel_rfl
      case hr5012 => kernel_rfl
      case hQ5012 => exact fun _ _ _ h => h
      case hS5012 => exact ⟨keep1 bw yp, keep1 bw z0, keep1 bw z1, keep1 bw z2, keep1 bw z3⟩
      case hy5012 => refine Or.inl ⟨by rfl, ?_⟩; intro w hSw; (try dsimp only at hSw); go_simp; (try with_reducible rfl)
      simp only [Act.put, List.setIfInBounds_toArray, List.set_cons_zero, List.set_cons_succ]
      refine wpAnyH_take (i := 13) (oi := ?oi5013) (v := ?v5013) ?hi5013 ?hs5013 ?hf5013 ?hr5013 ?hQ5013 ?hy5013 ?hS5013 ?hrest5013
      case hi5013 => (conv => lhs; simp only [List.getElem?_toArray, List.getElem?_cons_zero, List.getElem?_cons_succ]); try exact rfl
      case hs5013 => kernel_rfl
      case hf5013 => kernel_rfl
      case hr5013 => kernel_rfl
      case hQ5013 => exact fun _ _ _ h => h
      case hS5013 => exact ⟨keep1 bw yp, keep1 bw z0, keep1 bw z1, keep1 bw z2, keep1 bw z3⟩
      case hy5013 => refine Or.inl ⟨by rfl, ?_⟩; intro w hSw; (try dsimp only at hSw); go_simp; (try with_reducible rfl)
      simp only [Act.put, List.setIfInBounds_toArray, List.set_cons_zero, List.set_cons_succ]
      refine wpAnyH_ready (rs := [10, 14]) (by kernel_rfl) (by simp) ?_
      refine AllReadyH.cons (o := ?oi5014) ?hi5014 (fun K hK => ?br5014) (AllReadyH.cons (o := ?oi5015) ?hi5015 (fun K hK => ?br5015) AllReadyH.nil)
      case hi5014 => (conv => lhs; simp only [List.getElem?_toArray, List.getElem?_cons_zero, List.getElem?_cons_succ]); try exact rfl
      case hi5015 => (conv => lhs; simp only [List.getElem?_toArray, List.getElem?_cons_zero, List.getElem?_cons_succ]); try exact rfl
      case br5014 =>
       go_simp
       refine hK.out _ _ (by exact ⟨keep1 (belA bw (.cells #[.int .i64 e.h, .int .i64 e.i, .string e.s, .int .i64 e.d] 40)) yp, keep1 (belA bw (.cells #[.int .i64 e.h, .int .i64 e.i, .string e.s, .int .i64 e.d] 40)) z0, keep1 (belA bw (.cells #[.int .i64 e.h, .int .i64 e.i, .string e.s, .int .i64 e.d] 40)) z1, keep1 (belA bw (.cells #[.int .i64 e.h, .int .i64 e.i, .string e.s, .int .i64 e.d] 40)) z2, keep1 (belA bw (.cells #[.int .i64 e.h, .int .i64 e.i, .string e.s, .int .i64 e.d] 40)) z3⟩) (fun _ => ?_)
       clear hK K
       try simp only [Act.put, List.setIfInBounds_toArray, List.set_cons_zero, List.set_cons_succ]
       refine foldH ?_
       intro q hq
       obtain ⟨aLa, ha⟩ : ∃ g, r.heap.size = g := ⟨_, rfl⟩
       rw [ha]
       have bw2 : Below w.heap.size w q := by rw [hq]; exact belA bw _
       have oLa2 : q.ownsRow w.heap.size 40 4 (.slice (some ⟨aLa, 0, none⟩) (1) 1) (1) (ES [e]) := by rw [hq, ← ha]; exact own_lit1 _ _ _ _ _ _ _ bw.size
       exact key_c2_10 aLa q ⟨bw2, oLa2⟩
      case br5015 =>
       have x_0 := keep1 bw ya
       go_simp
       refine hK.out _ _ (by exact ⟨keep1 bw yp, keep1 bw z0, keep1 bw z1, keep1 bw z2, keep1 bw z3⟩) (fun _ => ?_)
       clear hK K
       try simp only [Act.put, List.setIfInBounds_toArray, List.set_cons_zero, List.set_cons_succ]
       have bw2 := bw
       exact key_c2_14  r bw2
     case key =>
      rintro aLa r ⟨bw, oLa⟩
      try dsimp only
      refine wpAnyH_ready (rs := [14]) (by kernel_rfl) (by simp) ?_
      refine AllReadyH.cons (o := ?oi5016) ?hi5016 (fun K hK => ?br5016) AllReadyH.nil
      case hi5016 => (conv => lhs; simp only [List.getElem?_toArray, List.getElem?_cons_zero, List.getElem?_cons_succ]); try exact rfl
      case br5016 =>
       have x_0 := keep1 bw ya
       go_simp
       refine hK.out _ _ (by exact ⟨keep1 bw yp, keep1 bw z0, keep1 bw z1, keep1 bw z2, keep1 bw z3⟩) (fun _ => ?_)
       clear hK K
       try simp only [Act.put, List.setIfInBounds_toArray, List.set_cons_zero, List.set_cons_succ]
       have bw2 := bw
       have oLa2 := oLa
       exact key_c2_10_14 aLa r ⟨bw2, oLa2⟩
    case key =>
     rintro  r bw
     try dsimp only
     refine wpAnyH_ready (rs := [10]) (by kernel_rfl) (by simp) ?_
     refine AllReadyH.cons (o := ?oi5017) ?hi5017 (fun K hK => ?br5017) AllReadyH.nil
     case hi5017 => (conv => lhs; simp only [List.getElem?_toArray, List.getElem?_cons_zero, List.getElem?_cons_succ]); try exact rfl
     case br5017 =>
      go_simp
      refine hK.out _ _ (by exact ⟨keep1 (belA bw (.cells #[.int .i64 e.h, .int .i64 e.i, .string e.s, .int .i64 e.d] 40)) yp, keep1 (belA bw (.cells #[.int .i64 e.h, .int .i64 e.i, .string e.s, .int .i64 e.d] 40)) z0, keep1 (belA bw (.cells #[.int .i64 e.h, .int .i64 e.i, .string e.s, .int .i64 e.d] 40)) z1, keep1 (belA bw (.cells #[.int .i64 e.h, .int .i64 e.i, .string e.s, .int .i64 e.d] 40)) z2, keep1 (belA bw (.cells #[.int .i64 e.h, .int .i64 e.i, .string e.s, .int .i64 e.d] 40)) z3⟩) (fun _ => ?_)
      clear hK K
      try simp only [Act.put, List.setIfInBounds_toArray, List.set_cons_zero, List.set_cons_succ]
      refine foldH ?_
      intro q hq
      obtain ⟨aLa, ha⟩ : ∃ g, r.heap.size = g := ⟨_, rfl⟩
      rw [ha]
      have bw2 : Below w.heap.size w q := by rw [hq]; exact belA bw _
      have oLa2 : q.ownsRow w.heap.size 40 4 (.slice (some ⟨aLa, 0, none⟩) (1) 1) (1) (ES [e]) := by rw [hq, ← ha]; exact own_lit1 _ _ _ _ _ _ _ bw.size
      exact key_c2_10_14 aLa q ⟨bw2, oLa2⟩
   case key =>
    rintro aLa r ⟨bw, oLa⟩
    try dsimp only
    refine wpAnyH_ready (rs := [15]) (by kernel_rfl) (by simp) ?_
    refine AllReadyH.cons (o := ?oi5018) ?hi5018 (fun K hK => ?br5018) AllReadyH.nil
    case hi5018 => (conv => lhs; simp only [List.getElem?_toArray, List.getElem?_cons_zero, List.getElem?_cons_succ]); try exact rfl
    case br5018 =>
     refine step_appX _ (by rfl) _ _ 30 (by rfl) Tryz.el_ent oLa (by rfl) (Reads.of_own (own_below oa.out bw (Nat.le_refl _))) (by rfl) (ES_cells _) (by unfold maxLen; omega) (by omega) bw.size ?_
     intro v q ow hg hor hb
     obtain ⟨bRa, cRa, rfl⟩ := own_form1 ow (by omega)
     have bw2 := bw.trans hb
     have oRa2 : q.ownsRow w.heap.size 40 4 (.slice (some ⟨bRa, 0, none⟩) (1 + a.xs.length) cRa) (1 + a.xs.length) (ES [e] ++ ES a.xs) := ow
     try simp only [Act.put, List.setIfInBounds_toArray, List.set_cons_zero, List.set_cons_succ]
     refine hK.out _ _ (by exact ⟨keep1 bw2 yp, keep1 bw2 z0, keep1 bw2 z1, keep1 bw2 z2, keep1 bw2 z3⟩) (fun _ => ?_)
     clear hK K
     try simp only [Act.put, List.setIfInBounds_toArray, List.set_cons_zero, List.set_cons_succ]
     refine wpAnyH_take (i := 16) (oi := ?oi5019) (v := ?v5019) ?hi5019 ?hs5019 ?hf5019 ?hr5019 ?hQ5019 ?hy5019 ?hS5019 ?hrest5019
     case hi5019 => (conv => lhs; simp only [List.getElem?_toArray, List.getElem?_cons_zero, List.getElem?_cons_succ]); try exact rfl
     case hs5019 => kernel_rfl
     case hf5019 => kernel_rfl
     case hr5019 => kernel_rfl
     case hQ5019 => exact fun _ _ _ h => h
     case hS5019 => exact ⟨keep1 bw2 yp, keep1 bw2 z0, keep1 bw2 z1, keep1 bw2 z2, keep1 bw2 z3⟩
     case hy5019 => refine Or.inl ⟨by rfl, ?_⟩; intro w hSw; (try dsimp only at hSw); go_simp; (try with_reducible rfl)
     simp only [Act.put, List.setIfInBounds_toArray, List.set_cons_zero, List.set_cons_succ]
     exact key_c2_10_14_15 aLa bRa cRa q ⟨bw2, oRa2⟩
  case key =>
   rintro aLa bRa cRa r ⟨bw, oRa⟩
   try dsimp only
   refine wpAnyH_ready (rs := [17]) (by kernel_rfl) (by simp) ?_
   refine AllReadyH.cons (o := ?oi5020) ?hi5020 (fun K hK => ?br5020) AllReadyH.nil
   case hi5020 => (conv => lhs; simp only [List.getElem?_toArray, List.getElem?_cons_zero, List.getElem?_cons_succ]); try exact rfl
   case br5020 =>
    have Yr := own_below hY.out bw (Nat.le_refl _)
    have x_0 := keep1 bw ya
    have f_0 := own_frozen Yr k
    go_simp
    refine hK.out _ _ (by exact ⟨cellS (keep1 bw yp) (fun e => njk (by injection e with _ e; exact e.symm)), cellS (keep1 bw z0) nb0, cellS (keep1 bw z1) nb1, cellS (keep1 bw z2) nb2, cellS (keep1 bw z3) nb3⟩) (fun _ => ?_)
    clear hK K
    try simp only [Act.put, List.setIfInBounds_toArray, List.set_cons_zero, List.set_cons_succ]
    refine wpAnyH_done (by kernel_rfl) ?_ _
    obtain ⟨q, hq⟩ : ∃ y : PgD, y = ⟨bRa, cRa, [e] ++ a.xs, 1 + a.xs.length, cRa⟩ := ⟨_, rfl⟩
    have hqv : q.val = .slice (some ⟨bRa, 0, none⟩) (1 + a.xs.length) cRa := by rw [hq]; rfl
    have hql : ([e] ++ a.xs).length = 1 + a.xs.length := by simp only [List.length_append, List.length_cons, List.length_nil]
    have hqd : OwnD r lo q := by
      rw [hq]
      refine ⟨?_, by simp only [hql]; exact Nat.le_refl _⟩
      simp only [hql]
      have h := own_more oRa hlo
      simp only [← ES_append] at h
      exact h
    have HP12 := hO.out.set (w' := r) (q := q) kL (gb_new bw) hqd (.inr (by rw [hq]; exact (own_some oRa).1))
    have HP13 := Lib.hid (HP12.app Yr (show r.grownBy (r.setCell ⟨g0, k, none⟩ (.slice (some ⟨bRa, 0, none⟩) (1 + a.xs.length) cRa)) (some g0) from only_sc (grown_refl _ _) k _))
    have y := own_set Yr k q.val
    rw [PV_set, hqv] at y
    have Y13 := Lib.hid y
    have B13 := Lib.hid ((bw.mono hlo).setCell (p := ⟨g0, k, none⟩) lg0 (.slice (some ⟨bRa, 0, none⟩) (1 + a.xs.length) cRa))
    have hz13 := Lib.hid (hZ.out.set (k := k) (q := q) (by rw [hq]; exact ⟨⟨hql.symm, rfl⟩, by simp only [hql]; omega, by simp only [hql]; omega, fun x hx => (List.mem_append.1 hx).elim (fun h => by rw [List.mem_singleton] at h; rw [h, ← he]; exact Np.out _ (List.getElem_mem _)) (Na.out x)⟩))
    have hsl : (L.set k q).length = n := by rw [List.length_set]; exact hN
    clear y bw Yr oRa HP12 hqd x_0 f_0 hq hqv hql
    generalize (r.setCell ⟨g0, k, none⟩ (.slice (some ⟨bRa, 0, none⟩) (1 + a.xs.length) cRa)) = w13 at B13 HP13 Y13 ⊢
    have l13 : lo ≤ w13.heap.size := by have := (Y13.out.lt g0 rfl).2; omega
    have kb : j < (L.set k q).length := by rw [List.length_set]; omega
    have hpp : (L.set k q)[j] = p := by rw [List.getElem_set_ne (fun e => njk e.symm)]; exact hp'
    have hpm : p ∈ L.set k q := by rw [← hpp]; exact List.getElem_mem _
    have hdp := HP13.out.1 p hpm
    have y13 := Y13.out.cellAt j (by omega)
    rw [PV_get _ j kb, hpp, vp] at y13
    have HR := Lib.hid (own_head hdp.1 (Nat.le_of_lt mlt))
    have hlit := Lib.hid (own_lit0 w13 40 4 w13.heap.size (Nat.le_refl _))
    have Hs := Lib.hid hsl
    have y13a := keep1 (belA (bel0 w13) (.cells #[] 40)) y13
    clear hdp hpm hsl
    go_wp2_with (at_builtin; refine wpList_app _ rfl _ _ _ rfl Tryz.el_ent hlit.out rfl ((HR.out.below (belA (bel0 w13) _)).more (Nat.le_succ _)) rfl (ES_cells _) (by unfold maxLen; omega) (by omega) (by simp) ?_; intro v14 w14 own14 hg14 hor14 hb14x; rw [Nat.zero_add, List.nil_append] at own14; obtain ⟨g14, c14, rfl⟩ := own_form1 own14 (by omega); have hb14 := (belA (bel0 w13) (.cells #[] 40)).trans hb14x; have y14 := keep1 hb14 y13; have f14 := own_frozen (own_below Y13.out hb14 (Nat.le_refl _)) j; have O14 := Lib.hid own14; clear own14 hg14 hor14 hb14x)
    obtain ⟨rp, hrp⟩ : ∃ q : PgD, q = ⟨g14, c14, p.xs.take m, m, c14⟩ := ⟨_, rfl⟩
    have hrv : rp.val = .slice (some ⟨g14, 0, none⟩) (m) c14 := by rw [hrp]; rfl
    have hrl : (p.xs.take m).length = m := by rw [List.length_take]; omega
    have hrd : OwnD w14 lo rp := by
      rw [hrp]
      refine ⟨?_, by simp only [hrl]; exact Nat.le_refl _⟩
      simp only [hrl]
      exact own_more O14.out l13
    have HP14 := HP13.out.set kb (gb_new hb14) hrd (.inr (by rw [hrp]; exact (own_some O14.out).1))
    have Y14 := own_below Y13.out hb14 (Nat.le_refl _)
    have HP15 := Lib.hid (HP14.app Y14 (show w14.grownBy (w14.setCell ⟨g0, j, none⟩ (.slice (some ⟨g14, 0, none⟩) (m) c14)) (some g0) from only_sc (grown_refl _ _) j _))
    have y := own_set Y14 j rp.val
    rw [PV_set, hrv] at y
    have Y15 := Lib.hid y
    have B15 := Lib.hid ((B13.out.trans (hb14.mono l13)).setCell (p := ⟨g0, j, none⟩) lg0 (.slice (some ⟨g14, 0, none⟩) (m) c14))
    have hz15 := Lib.hid (hz13.out.set (k := j) (q := rp) (by rw [hrp]; exact ⟨⟨hrl.symm, rfl⟩, by simp only [hrl]; omega, by simp only [hrl]; omega, fun x hx => Np.out x (List.mem_of_mem_take hx)⟩))
    have hsl2 : ((L.set k q).set j rp).length = n := by rw [List.length_set]; exact Hs.out
    have HS := Lib.hid (hz15.out.sm (by omega))
    refine bodyPost_ret (v := .slice (some ⟨g0, 0, none⟩) n c0) (by simp [results, Tryz.results91, go_sem]) rfl ⟨fillOut_end HP15.out hsl2 Y15.out HS.out, B15.out⟩

set_option maxRecDepth 100000 in
set_option maxHeartbeats 4000000 in
theorem fill_2b (N lo g0 n c0 k : Nat) (L : List PgD) (w : World) (hN : L.length = n) (h8 : n ≤ 8) (_hk : k < n) (hz : FzL N L) (HO : OwnP w lo L) (HY : w.ownsRow lo 30 1 (.slice (some ⟨g0, 0, none⟩) n c0) n (PV L))
    (hc : k + 1 < n) (h1 : ∀ (h : k < L.length), L[k].xs.length = 1) (k0 : 0 < k) (h2 : ∀ (h : k + 1 < L.length), ¬ 2 < L[k + 1].xs.length) (h3 : ∀ (h : k - 1 < L.length), 2 < L[k - 1].xs.length) :
    Calls Tryz.prog 91 #[.slice (some ⟨g0, 0, none⟩) n c0, .int .i64 k] w fun r w' => FillOut N lo r w' ∧ Below lo w w' := by
  have hf := hz.f
  have hO := Lib.hid HO
  have hY := Lib.hid HY
  have hZ := Lib.hid hz
  have hlo : lo ≤ w.heap.size := by have := HY.lt g0 rfl; omega
  have lg0 := (HY.lt g0 rfl).1
  have lg1 := (HY.lt g0 rfl).2
  have kL : k < L.length := by omega
  have q0 : (0 : Int) ≤ (k : Int) := by omega
  have q1 : (k : Int) < (n : Int) := by omega
  obtain ⟨a, ha, ma, da, va, ya, ca, nea⟩ := pgf HO HY hf (k := k) (kL)
  have oa := Lib.hid da.1
  obtain ⟨fa, za, la, na⟩ := hz _ ma
  have Na := Lib.hid na
  clear na
  have a1 : a.xs.length = 1 := by rw [← ha]; exact h1 kL
  have e0 : ((n : Int) == 1) = false := beq_eq_false_iff_ne.2 (by omega)
  have e1 : (((a.xs.length : Nat) : Int) == 0) = false := beq_eq_false_iff_ne.2 (by omega)
  have e2 : ¬ (((a.xs.length : Nat) : Int) ≥ 2) := by omega
  have e3 : ¬ ((2 : Int) ≤ ((a.xs.length : Nat) : Int)) := by omega
  have a2 : a.xs.length ≤ 1 := by omega
  clear a1
  have bL : k + 1 < L.length := by omega
  obtain ⟨b, hb, mb, db, vb, yb, cb, neb⟩ := pgf HO HY hf (k := k + 1) (bL)
  have ob := Lib.hid db.1
  obtain ⟨fb, zb, lb, nb⟩ := hz _ mb
  have Nb := Lib.hid nb
  clear nb
  have b2 : ¬ 2 < b.xs.length := by have := h2 (by omega); rw [hb] at this; exact this
  obtain ⟨i, hi⟩ : ∃ i, i = k + 1 := ⟨_, rfl⟩
  rw [← hi] at yb
  have wi : IntKind.i64.wrap ((k : Int) + 1) = (i : Int) := by rw [IntKind.wrap_i64]; omega
  have q2 : (0 : Int) ≤ (i : Int) := by omega
  have q3 : (i : Int) < (n : Int) := by omega
  have q5 : ¬ (((b.xs.length : Nat) : Int) > 2) := by omega
  have q6 : ¬ ((2 : Int) < ((b.xs.length : Nat) : Int)) := by omega
  have nki : k ≠ i := by omega
  have din : i < n := by omega
  have pL : k - 1 < L.length := by omega
  obtain ⟨p, hp, mp, dp, vp, yp, cp, nep⟩ := pgf HO HY hf (k := k - 1) (pL)
  have op := Lib.hid dp.1
  obtain ⟨fp, zp, lp, np⟩ := hz _ mp
  have Np := Lib.hid np
  clear np
  have p2 : 2 < p.xs.length := by have := h3 (by omega); rw [hp] at this; exact this
  obtain ⟨j, hj⟩ : ∃ j, j = k - 1 := ⟨_, rfl⟩
  rw [← hj] at yp
  have jL' : j < L.length := by omega
  have hp' : L[j] = p := by subst hj; exact hp
  have wj : IntKind.i64.wrap ((k : Int) - 1) = (j : Int) := by rw [IntKind.wrap_i64]; omega
  have r7 : (k : Int) > 0 := by omega
  have r8 : (0 : Int) ≤ (j : Int) := by omega
  have r9 : (j : Int) < (n : Int) := by omega
  have ra : ((p.xs.length : Nat) : Int) > 2 := by omega
  have rb : (2 : Int) < ((p.xs.length : Nat) : Int) := by omega
  have rc : (0 : Int) < (k : Int) := by omega
  have njk : j ≠ k := by omega
  have jL : j < L.length := by omega
  obtain ⟨m, hm⟩ : ∃ m, m = p.xs.length - 1 := ⟨_, rfl⟩
  have mlt : m < p.xs.length := by omega
  obtain ⟨hk0, bb, oo, hbo, _, z0, z1, z2, z3⟩ := reads_ent (Reads.of_own op.out) mlt
  simp only [Option.some.injEq, Addr.mk.injEq, and_true] at hbo
  obtain ⟨rfl, rfl⟩ := hbo
  simp only [Nat.zero_add] at z0 z1 z2 z3
  obtain ⟨e, he⟩ : ∃ e, p.xs[m] = e := ⟨_, rfl⟩
  rw [he] at z0 z1 z2 z3
  have wm : IntKind.i64.wrap (((p.xs.length : Nat) : Int) - 1) = (m : Int) := by rw [IntKind.wrap_i64]; omega
  have qm1 : 2 ≤ m := by omega
  have qm8 : (0 : Int) ≤ (m : Int) := by omega
  have qm9 : (m : Int) < ((p.xs.length : Nat) : Int) := by omega
  have hpc : p.xs.length ≤ p.c := by obtain ⟨_, _, _, h, _⟩ := own_some dp.1; exact h
  have qmc : (m : Int) ≤ (p.c : Int) := by omega
  have qmd : m ≤ p.c := by omega
  have npg : p.g ≠ g0 := fun e => nep (by rw [e])
  have nb0 : (⟨g0, k, none⟩ : Addr) ≠ ⟨p.g, m * 4, none⟩ := fun e => npg (by injection e with e; exact e.symm)
  have nb1 : (⟨g0, k, none⟩ : Addr) ≠ ⟨p.g, m * 4 + 1, none⟩ := fun e => npg (by injection e with e; exact e.symm)
  have nb2 : (⟨g0, k, none⟩ : Addr) ≠ ⟨p.g, m * 4 + 2, none⟩ := fun e => npg (by injection e with e; exact e.symm)
  have nb3 : (⟨g0, k, none⟩ : Addr) ≠ ⟨p.g, m * 4 + 3, none⟩ := fun e => npg (by injection e with e; exact e.symm)
  clear HO HY hz hf h1 h2 h3 ha hb hp va vb hi hj hm
  go_enter Tryz.func91, Tryz.ntmps91
  go_wp2_with fail
  refine wp_region_held_drew (S := fun w' => w'.cell? ⟨g0, j, none⟩ = some (.slice (some ⟨p.g, 0, none⟩) p.xs.length p.c) ∧ w'.cell? ⟨p.g, m * 4, none⟩ = some (.int .i64 e.h) ∧ w'.cell? ⟨p.g, m * 4 + 1, none⟩ = some (.int .i64 e.i) ∧ w'.cell? ⟨p.g, m * 4 + 2, none⟩ = some (.string e.s) ∧ w'.cell? ⟨p.g, m * 4 + 3, none⟩ = some (.int .i64 e.d)) (by kernel_rfl) (by exact ⟨yp, z0, z1, z2, z3⟩) (fun hHeld => ?_)
  clear hHeld
  refine foldH ?_
  intro r hr0
  have bw : Below w.heap.size w r := by rw [hr0]; exact (bel0 w).drew
  clear hr0
  apply mem3_nnnw (P := fun aLa bRa cRa q => Below w.heap.size w q ∧ q.ownsRow w.heap.size 40 4 (.slice (some ⟨bRa, 0, none⟩) (1 + a.xs.length) cRa) (1 + a.xs.length) (ES [e] ++ ES a.xs))
  case use =>
   intro key_c2_10_14_15
   apply mem3_nw (P := fun aLa q => Below w.heap.size w q ∧ q.ownsRow w.heap.size 40 4 (.slice (some ⟨aLa, 0, none⟩) (1) 1) (1) (ES [e]))
   case use =>
    intro key_c2_10_14
    apply mem3_w (P := fun  q => Below w.heap.size w q)
    case use =>
     intro key_c2_14
     apply mem3_nw (P := fun aLa q => Below w.heap.size w q ∧ q.ownsRow w.heap.size 40 4 (.slice (some ⟨aLa, 0, none⟩) (1) 1) (1) (ES [e]))
     case use =>
      intro key_c2_10
      refine wpAnyH_take (i := 0) (oi := ?oi6001) (v := ?v6001) ?hi6001 ?hs6001 ?hf6001 ?hr6001 ?hQ6001 ?hy6001 ?hS6001 ?hrest6001
      case hi6001 => (conv => lhs; simp only [List.getElem?_toArray, List.getElem?_cons_zero]); try exact rfl
      case hs6001 => kernel_rfl
      case hf6001 => kernel_rfl
      case hr6001 => kernel_rfl
      case hQ6001 => exact fun _ _ _ h => h
      case hS6001 => exact ⟨keep1 bw yp, keep1 bw z0, keep1 bw z1, keep1 bw z2, keep1 bw z3⟩
      case hy6001 => refine Or.inl ⟨by rfl, ?_⟩; intro w hSw; (try dsimp only at hSw); go_simp; (try with_reducible rfl)
      simp only [Act.put, List.setIfInBounds_toArray, List.set_cons_zero, List.set_cons_succ]
      refine wpAnyH_take (i := 1) (oi := ?oi6002) (v := ?v6002) ?hi6002 ?hs6002 ?hf6002 ?hr6002 ?hQ6002 ?hy6002 ?hS6002 ?hrest6002
      case hi6002 => (conv => lhs; simp only [List.getElem?_toArray, List.getElem?_cons_zero, List.getElem?_cons_succ]); try exact rfl
      case hs6002 => kernel_rfl
      case hf6002 => kernel_rfl
      case hr6002 => kernel_rfl
      case hQ6002 => exact fun _ _ _ h => h
      case hS6002 => exact ⟨keep1 bw yp, keep1 bw z0, keep1 bw z1, keep1 bw z2, keep1 bw z3⟩
      case hy6002 => refine Or.inl ⟨by rfl, ?_⟩; intro w hSw; (try dsimp only at hSw); go_simp; (try with_reducible rfl)
      simp only [Act.put, List.setIfInBounds_toArray, List.set_cons_zero, List.set_cons_succ]
      refine wpAnyH_take (i := 2) (oi := ?oi6003) (v := ?v6003) ?hi6003 ?hs6003 ?hf6003 ?hr6003 ?hQ6003 ?hy6003 ?hS6003 ?hrest6003
      case hi6003 => (conv => lhs; simp only [List.getElem?_toArray, List.getElem?_cons_zero, List.getElem?_cons_succ]); try exact rfl
      case hs6003 => kernel_rfl
      case hf6003 => kernel_rfl
      case hr6003 => kernel_rfl
      case hQ6003 => exact fun _ _ _ h => h
      case hS6003 => exact ⟨keep1 bw yp, keep1 bw z0, keep1 bw z1, keep1 bw z2, keep1 bw z3⟩
      case hy6003 => refine Or.inl ⟨by rfl, ?_⟩; intro w hSw; (try dsimp only at hSw); go_simp; (try with_reducible rfl)
      simp only [Act.put, List.setIfInBounds_toArray, List.set_cons_zero, List.set_cons_succ]
      refine wpAnyH_take (i := 3) (oi := ?oi6004) (v := ?v6004) ?hi6004 ?hs6004 ?hf6004 ?hr6004 ?hQ6004 ?hy6004 ?hS6004 ?hrest6004
      case hi6004 => (conv => lhs; simp only [List.getElem?_toArray, List.getElem?_cons_zero, List.getElem?_cons_succ]); try exact rfl
      case hs6004 => kernel_rfl
      case hf6004 => kernel_rfl
      case hr6004 => kernel_rfl
      case hQ6004 => exact fun _ _ _ h => h
      case hS6004 => exact ⟨keep1 bw yp, keep1 bw z0, keep1 bw z1, keep1 bw z2, keep1 bw z3⟩
      case hy6004 => refine Or.inl ⟨by rfl, ?_⟩; intro w hSw; (try dsimp only at hSw); go_simp; (try with_reducible rfl)
      simp only [Act.put, List.setIfInBounds_toArray, List.set_cons_zero, List.set_cons_succ]
      refine wpAnyH_take (i := 4) (oi := ?oi6005) (v := ?v6005) ?hi6005 ?hs6005 ?hf6005 ?hr6005 ?hQ6005 ?hy6005 ?hS6005 ?hrest6005
      case hi6005 => (conv => lhs; simp only [List.getElem?_toArray, List.getElem?_cons_zero, List.getElem?_cons_succ]); try exact rfl
      case hs6005 => kernel_rfl
      case hf6005 => kernel_rfl
      case hr6005 => kernel_rfl
      case hQ6005 => exact fun _ _ _ h => h
      case hS6005 => exact ⟨keep1 bw yp, keep1 bw z0, keep1 bw z1, keep1 bw z2, keep1 bw z3⟩
      case hy6005 => refine Or.inl ⟨by rfl, ?_⟩; intro w hSw; (try dsimp only at hSw); go_simp; (try with_reducible rfl)
      simp only [Act.put, List.setIfInBounds_toArray, List.set_cons_zero, List.set_cons_succ]
      refine wpAnyH_take (i := 5) (oi := ?oi6006) (v := ?v6006) ?hi6006 ?hs6006 ?hf6006 ?hr6006 ?hQ6006 ?hy6006 ?hS6006 ?hrest6006
      case hi6006 => (conv => lhs; simp only [List.getElem?_toArray, List.getElem?_cons_zero, List.getElem?_cons_succ]); try exact rfl
      case hs6006 => kernel_rfl
      case hf6006 => kernel_rfl
      case hr6006 => kernel_rfl
      case hQ6006 => exact fun _ _ _ h => h
      case hS6006 => exact ⟨keep1 bw yp, keep1 bw z0, keep1 bw z1, keep1 bw z2, keep1 bw z3⟩
      case hy6006 => refine Or.inl ⟨by rfl, ?_⟩; intro w hSw; (try dsimp only at hSw); go_simp; (try with_reducible rfl)
      simp only [Act.put, List.setIfInBounds_toArray, List.set_cons_zero, List.set_cons_succ]
      refine wpAnyH_take (i := 6) (oi := ?oi6007) (v := ?v6007) ?hi6007 ?hs6007 ?hf6007 ?hr6007 ?hQ6007 ?hy6007 ?hS6007 ?hrest6007
      case hi6007 => (conv => lhs; simp only [List.getElem?_toArray, List.getElem?_cons_zero, List.getElem?_cons_succ]); try exact rfl
      case hs6007 => kernel_rfl
      case hf6007 => kernel_rfl
      case hr6007 => kernel_rfl
      case hQ6007 => exact fun _ _ _ h => h
      case hS6007 => exact ⟨keep1 bw yp, keep1 bw z0, keep1 bw z1, keep1 bw z2, keep1 bw z3⟩
      case hy6007 => refine Or.inl ⟨by rfl, ?_⟩; intro w hSw; (try dsimp only at hSw); go_simp; (try with_reducible rfl)
      simp only [Act.put, List.setIfInBounds_toArray, List.set_cons_zero, List.set_cons_succ]
      refine wpAnyH_take (i := 7) (oi := ?oi6008) (v := ?v6008) ?hi6008 ?hs6008 ?hf6008 ?hr6008 ?hQ6008 ?hy6008 ?hS6008 ?hrest6008
      case hi6008 => (conv => lhs; simp only [List.getElem?_toArray, List.getElem?_cons_zero, List.getElem?_cons_succ]); try exact rfl
      case hs6008 => kernel_rfl
      case hf6008 => kernel_rfl
      case hr6008 => kernel_rfl
      case hQ6008 => exact fun _ _ _ h => h
      case hS6008 => exact ⟨keep1 bw yp, keep1 bw z0, keep1 bw z1, keep1 bw z2, keep1 bw z3⟩
      case hy6008 => refine Or.inl ⟨by rfl, ?_⟩; intro w hSw; (try dsimp only at hSw); go_simp; (try with_reducible rfl)
      simp only [Act.put, List.setIfInBounds_toArray, List.set_cons_zero, List.set_cons_succ]
      refine wpAnyH_take (i := 8) (oi := ?oi6009) (v := ?v6009) ?hi6009 ?hs6009 ?hf6009 ?hr6009 ?hQ6009 ?hy6009 ?hS6009 ?hrest6009
      case hi6009 => (conv => lhs; simp only [List.getElem?_toArray, List.getElem?_cons_zero, List.getElem?_cons_succ]); try exact rfl
      case hs6009 => kernel_rfl
      case hf6009 => kernel_rfl
      case hr6009 => kernel_rfl
      case hQ6009 => exact fun _ _ _ h => h
      case hS6009 => exact ⟨keep1 bw yp, keep1 bw z0, keep1 bw z1, keep1 bw z2, keep1 bw z3⟩
      case hy6009 => refine Or.inl ⟨by rfl, ?_⟩; intro w hSw; (try dsimp only at hSw); go_simp; (try with_reducible rfl)
      simp only [Act.put, List.setIfInBounds_toArray, List.set_cons_zero, List.set_cons_succ]
      refine wpAnyH_take (i := 9) (oi := ?oi6010) (v := ?v6010) ?hi6010 ?hs6010 ?hf6010 ?hr6010 ?hQ6010 ?hy6010 ?hS6010 ?hrest6010
      case hi6010 => (conv => lhs; simp only [List.getElem?_toArray, List.getElem?_cons_zero, List.getElem?_cons_succ]); try exact rfl
      case hs6010 => kernel_rfl
      case hf6010 => kernel_rfl
      case hr6010 => kernel_rfl
      case hQ6010 => exact fun _ _ _ h => h
      case hS6010 => exact ⟨keep1 bw yp, keep1 bw z0, keep1 bw z1, keep1 bw z2, keep1 bw z3⟩
      case hy6010 => refine Or.inl ⟨by rfl, ?_⟩; intro w hSw; (try dsimp only at hSw); go_simp; (try with_reducible rfl)
      simp only [Act.put, List.setIfInBounds_toArray, List.set_cons_zero, List.set_cons_succ]
      refine wpAnyH_take (i := 11) (oi := ?oi6011) (v := ?v6011) ?hi6011 ?hs6011 ?hf6011 ?hr6011 ?hQ6011 ?hy6011 ?hS6011 ?hrest6011
      case hi6011 => (conv => lhs; simp only [List.getElem?_toArray, List.getElem?_cons_zero, List.getElem?_cons_succ]); try exact rfl
      case hs6011 => kernel_rfl
      case hf6011 => kernel_rfl
      case hr6011 => kernel_rfl
      case hQ6011 => exact fun _ _ _ h => h
      case hS6011 => exact ⟨keep1 bw yp, keep1 bw z0, keep1 bw z1, keep1 bw z2, keep1 bw z3⟩
      case hy6011 => refine Or.inl ⟨by rfl, ?_⟩; intro w hSw; (try dsimp only at hSw); go_simp; (try with_reducible rfl)
      simp only [Act.put, List.setIfInBounds_toArray, List.set_cons_zero, List.set_cons_succ]
      refine wpAnyH_take (i := 12) (oi := ?oi6012) (v := ?v6012) ?hi6012 ?hs6012 ?hf6012 ?hr6012 ?hQ6012 ?hy6012 ?hS6012 ?hrest6012
      case hi6012 => (conv => lhs; simp only [List.getElem?_toArray, List.getElem?_cons_zero, List.getElem?_cons_succ]); try exact rfl
      case hs6012 => kernel_rfl
      case hf6012 => kernel_rfl
      case hr6012 => kernel_rfl
      case hQ6012 => exact fun _ _ _ h => h
      case hS6012 => exact ⟨keep1 bw yp, keep1 bw z0, keep1 bw z1, keep1 bw z2, keep1 bw z3⟩
      case hy6012 => refine Or.inl ⟨by rfl, ?_⟩; intro w hSw; (try dsimp only at hSw); go_simp; (try with_reducible rfl)
      simp only [Act.put, List.setIfInBounds_toArray, List.set_cons_zero, List.set_cons_succ]
      refine wpAnyH_take (i := 13) (oi := ?oi6013) (v := ?v6013) ?hi6013 ?hs6013 ?hf6013 ?hr6013 ?hQ6013 ?hy6013 ?hS6013 ?hrest6013
      case hi6013 => (conv => lhs; simp only [List.getElem?_toArray, List.getElem?_cons_zero, List.getElem?_cons_succ]); try exact rfl
      case hs6013 => kernel_rfl
      case hf6013 => kernel_rfl
      case hr6013 => kernel_rfl
      case hQ6013 => exact fun _ _ _ h => h
      case hS6013 => exact ⟨keep1 bw yp, keep1 bw z0, keep1 bw z1, keep1 bw z2, keep1 bw z3⟩
      case hy6013 => refine Or.inl ⟨by rfl, ?_⟩; intro w hSw; (try dsimp only at hSw); go_simp; (try with_reducible rfl)
      simp only [Act.put, List.setIfInBounds_toArray, List.set_cons_zero, List.set_cons_succ]
      refine wpAnyH_ready (rs := [10, 14]) (by kernel_rfl) (by simp) ?_
      refine AllReadyH.cons (o := ?oi6014) ?hi6014 (fun K hK => ?br6014) (AllReadyH.cons (o := ?oi6015) ?hi6015 (fun K hK => ?br6015) AllReadyH.nil)
      case hi6014 => (conv => lhs; simp only [List.getElem?_toArray, List.getElem?_cons_zero, List.getElem?_cons_succ]); try exact rfl
      case hi6015 => (conv => lhs; simp only [List.getElem?_toArray, List.getElem?_cons_zero, List.getElem?_cons_succ]); try exact rfl
      case br6014 =>
       go_simp
       refine hK.out _ _ (by exact ⟨keep1 (belA bw (.cells #[.int .i64 e.h, .int .i64 e.i, .string e.s, .int .i64 e.d] 40)) yp, keep1 (belA bw (.cells #[.int .i64 e.h, .int .i64 e.i, .string e.s, .int .i64 e.d] 40)) z0, keep1 (belA bw (.cells #[.int .i64 e.h, .int .i64 e.i, .string e.s, .int .i64 e.d] 40)) z1, keep1 (belA bw (.cells #[.int .i64 e.h, .int .i64 e.i, .string e.s, .int .i64 e.d] 40)) z2, keep1 (belA bw (.cells #[.int .i64 e.h, .int .i64 e.i, .string e.s, .int .i64 e.d] 40)) z3⟩) (fun _ => ?_)
       clear hK K
       try simp only [Act.put, List.setIfInBounds_toArray, List.set_cons_zero, List.set_cons_succ]
       refine foldH ?_
       intro q hq
       obtain ⟨aLa, ha⟩ : ∃ g, r.heap.size = g := ⟨_, rfl⟩
       rw [ha]
       have bw2 : Below w.heap.size w q := by rw [hq]; exact belA bw _
       have oLa2 : q.ownsRow w.heap.size 40 4 (.slice (some ⟨aLa, 0, none⟩) (1) 1) (1) (ES [e]) := by rw [hq, ← ha]; exact own_lit1 _ _ _ _ _ _ _ bw.size
       exact key_c2_10 aLa q ⟨bw2, oLa2⟩
      case br6015 =>
       have x_0 := keep1 bw ya
       go_simp
       refine hK.out _ _ (by exact ⟨keep1 bw yp, keep1 bw z0, keep1 bw z1, keep1 bw z2, keep1 bw z3⟩) (fun _ => ?_)
       clear hK K
       try simp only [Act.put, List.setIfInBounds_toArray, List.set_cons_zero, List.set_cons_succ]
       have bw2 := bw
       exact key_c2_14  r bw2
     case key =>
      rintro aLa r ⟨bw, oLa⟩
      try dsimp only
      refine wpAnyH_ready (rs := [14]) (by kernel_rfl) (by simp) ?_
      refine AllReadyH.cons (o := ?oi6016) ?hi6016 (fun K hK => ?br6016) AllReadyH.nil
      case hi6016 => (conv => lhs; simp only [List.getElem?_toArray, List.getElem?_cons_zero, List.getElem?_cons_succ]); try exact rfl
      case br6016 =>
       have x_0 := keep1 bw ya
       go_simp
       refine hK.out _ _ (by exact ⟨keep1 bw yp, keep1 bw z0, keep1 bw z1, keep1 bw z2, keep1 bw z3⟩) (fun _ => ?_)
       clear hK K
       try simp only [Act.put, List.setIfInBounds_toArray, List.set_cons_zero, List.set_cons_succ]
       have bw2 := bw
       have oLa2 := oLa
       exact key_c2_10_14 aLa r ⟨bw2, oLa2⟩
    case key =>
     rintro  r bw
     try dsimp only
     refine wpAnyH_ready (rs := [10]) (by kernel_rfl) (by simp) ?_
     refine AllReadyH.cons (o := ?oi6017) ?hi6017 (fun K hK => ?br6017) AllReadyH.nil
     case hi6017 => (conv => lhs; simp only [List.getElem?_toArray, List.getElem?_cons_zero, List.getElem?_cons_succ]); try exact rfl
     case br6017 =>
      go_simp
      refine hK.out _ _ (by exact ⟨keep1 (belA bw (.cells #[.int .i64 e.h, .int .i64 e.i, .string e.s, .int .i64 e.d] 40)) yp, keep1 (belA bw (.cells #[.int .i64 e.h, .int .i64 e.i, .string e.s, .int .i64 e.d] 40)) z0, keep1 (belA bw (.cells #[.int .i64 e.h, .int .i64 e.i, .string e.s, .int .i64 e.d] 40)) z1, keep1 (belA bw (.cells #[.int .i64 e.h, .int .i64 e.i, .string e.s, .int .i64 e.d] 40)) z2, keep1 (belA bw (.cells #[.int .i64 e.h, .int .i64 e.i, .string e.s, .int .i64 e.d] 40)) z3⟩) (fun _ => ?_)
      clear hK K
      try simp only [Act.put, List.setIfInBounds_toArray, List.set_cons_zero, List.set_cons_succ]
      refine foldH ?_
      intro q hq
      obtain ⟨aLa, ha⟩ : ∃ g, r.heap.size = g := ⟨_, rfl⟩
      rw [ha]
      have bw2 : Below w.heap.size w q := by rw [hq]; exact belA bw _
      have oLa2 : q.ownsRow w.heap.size 40 4 (.slice (some ⟨aLa, 0, none⟩) (1) 1) (1) (ES [e]) := by rw [hq, ← ha]; exact own_lit1 _ _ _ _ _ _ _ bw.size
      exact key_c2_10_14 aLa q ⟨bw2, oLa2⟩
   case key =>
    rintro aLa r ⟨bw, oLa⟩
    try dsimp only
    refine wpAnyH_ready (rs := [15]) (by kernel_rfl) (by simp) ?_
    refine AllReadyH.cons (o := ?oi6018) ?hi6018 (fun K hK => ?br6018) AllReadyH.nil
    case hi6018 => (conv => lhs; simp only [List.getElem?_toArray, List.getElem?_cons_zero, List.getElem?_cons_succ]); try exact rfl
    case br6018 =>
     refine step_appX _ (by rfl) _ _ 30 (by rfl) Tryz.el_ent oLa (by rfl) (Reads.of_own (own_below oa.out bw (Nat.le_refl _))) (by rfl) (ES_cells _) (by unfold maxLen; omega) (by omega) bw.size ?_
     intro v q ow hg hor hb
     obtain ⟨bRa, cRa, rfl⟩ := own_form1 ow (by omega)
     have bw2 := bw.trans hb
     have oRa2 : q.ownsRow w.heap.size 40 4 (.slice (some ⟨bRa, 0, none⟩) (1 + a.xs.length) cRa) (1 + a.xs.length) (ES [e] ++ ES a.xs) := ow
     try simp only [Act.put, List.setIfInBounds_toArray, List.set_cons_zero, List.set_cons_succ]
     refine hK.out _ _ (by exact ⟨keep1 bw2 yp, keep1 bw2 z0, keep1 bw2 z1, keep1 bw2 z2, keep1 bw2 z3⟩) (fun _ => ?_)
     clear hK K
     try simp only [Act.put, List.setIfInBounds_toArray, List.set_cons_zero, List.set_cons_succ]
     refine wpAnyH_take (i := 16) (oi := ?oi6019) (v := ?v6019) ?hi6019 ?hs6019 ?hf6019 ?hr6019 ?hQ6019 ?hy6019 ?hS6019 ?hrest6019
     case hi6019 => (conv => lhs; simp only [List.getElem?_toArray, List.getElem?_cons_zero, List.getElem?_cons_succ]); try exact rfl
     case hs6019 => kernel_rfl
     case hf6019 => kernel_rfl
     case hr6019 => kernel_rfl
     case hQ6019 => exact fun _ _ _ h => h
     case hS6019 => exact ⟨keep1 bw2 yp, keep1 bw2 z0, keep1 bw2 z1, keep1 bw2 z2, keep1 bw2 z3⟩
     case hy6019 => refine Or.inl ⟨by rfl, ?_⟩; intro w hSw; (try dsimp only at hSw); go_simp; (try with_reducible rfl)
     simp only [Act.put, List.setIfInBounds_toArray, List.set_cons_zero, List.set_cons_succ]
     exact key_c2_10_14_15 aLa bRa cRa q ⟨bw2, oRa2⟩
  case key =>
   rintro aLa bRa cRa r ⟨bw, oRa⟩
   try dsimp only
   refine wpAnyH_ready (rs := [17]) (by kernel_rfl) (by simp) ?_
   refine AllReadyH.cons (o := ?oi6020) ?hi6020 (fun K hK => ?br6020) AllReadyH.nil
   case hi6020 => (conv => lhs; simp only [List.getElem?_toArray, List.getElem?_cons_zero, List.getElem?_cons_succ]); try exact rfl
   case br6020 =>
    have Yr := own_below hY.out bw (Nat.le_refl _)
    have x_0 := keep1 bw ya
    have f_0 := own_frozen Yr k
    go_simp
    refine hK.out _ _ (by exact ⟨cellS (keep1 bw yp) (fun e => njk (by injection e with _ e; exact e.symm)), cellS (keep1 bw z0) nb0, cellS (keep1 bw z1) nb1, cellS (keep1 bw z2) nb2, cellS (keep1 bw z3) nb3⟩) (fun _ => ?_)
    clear hK K
    try simp only [Act.put, List.setIfInBounds_toArray, List.set_cons_zero, List.set_cons_succ]
    refine wpAnyH_done (by kernel_rfl) ?_ _
    obtain ⟨q, hq⟩ : ∃ y : PgD, y = ⟨bRa, cRa, [e] ++ a.xs, 1 + a.xs.length, cRa⟩ := ⟨_, rfl⟩
    have hqv : q.val = .slice (some ⟨bRa, 0, none⟩) (1 + a.xs.length) cRa := by rw [hq]; rfl
    have hql : ([e] ++ a.xs).length = 1 + a.xs.length := by simp only [List.length_append, List.length_cons, List.length_nil]
    have hqd : OwnD r lo q := by
      rw [hq]
      refine ⟨?_, by simp only [hql]; exact Nat.le_refl _⟩
      simp only [hql]
      have h := own_more oRa hlo
      simp only [← ES_append] at h
      exact h
    have HP12 := hO.out.set (w' := r) (q := q) kL (gb_new bw) hqd (.inr (by rw [hq]; exact (own_some oRa).1))
    have HP13 := Lib.hid (HP12.app Yr (show r.grownBy (r.setCell ⟨g0, k, none⟩ (.slice (some ⟨bRa, 0, none⟩) (1 + a.xs.length) cRa)) (some g0) from only_sc (grown_refl _ _) k _))
    have y := own_set Yr k q.val
    rw [PV_set, hqv] at y
    have Y13 := Lib.hid y
    have B13 := Lib.hid ((bw.mono hlo).setCell (p := ⟨g0, k, none⟩) lg0 (.slice (some ⟨bRa, 0, none⟩) (1 + a.xs.length) cRa))
    have hz13 := Lib.hid (hZ.out.set (k := k) (q := q) (by rw [hq]; exact ⟨⟨hql.symm, rfl⟩, by simp only [hql]; omega, by simp only [hql]; omega, fun x hx => (List.mem_append.1 hx).elim (fun h => by rw [List.mem_singleton] at h; rw [h, ← he]; exact Np.out _ (List.getElem_mem _)) (Na.out x)⟩))
    have hsl : (L.set k q).length = n := by rw [List.length_set]; exact hN
    clear y bw Yr oRa HP12 hqd x_0 f_0 hq hqv hql
    generalize (r.setCell ⟨g0, k, none⟩ (.slice (some ⟨bRa, 0, none⟩) (1 + a.xs.length) cRa)) = w13 at B13 HP13 Y13 ⊢
    have l13 : lo ≤ w13.heap.size := by have := (Y13.out.lt g0 rfl).2; omega
    have kb : j < (L.set k q).length := by rw [List.length_set]; omega
    have hpp : (L.set k q)[j] = p := by rw [List.getElem_set_ne (fun e => njk e.symm)]; exact hp'
    have hpm : p ∈ L.set k q := by rw [← hpp]; exact List.getElem_mem _
    have hdp := HP13.out.1 p hpm
    have y13 := Y13.out.cellAt j (by omega)
    rw [PV_get _ j kb, hpp, vp] at y13
    have HR := Lib.hid (own_head hdp.1 (Nat.le_of_lt mlt))
    have hlit := Lib.hid (own_lit0 w13 40 4 w13.heap.size (Nat.le_refl _))
    have Hs := Lib.hid hsl
    have y13a := keep1 (belA (bel0 w13) (.cells #[] 40)) y13
    clear hdp hpm hsl
    go_wp2_with (at_builtin; refine wpList_app _ rfl _ _ _ rfl Tryz.el_ent hlit.out rfl ((HR.out.below (belA (bel0 w13) _)).more (Nat.le_succ _)) rfl (ES_cells _) (by unfold maxLen; omega) (by omega) (by simp) ?_; intro v14 w14 own14 hg14 hor14 hb14x; rw [Nat.zero_add, List.nil_append] at own14; obtain ⟨g14, c14, rfl⟩ := own_form1 own14 (by omega); have hb14 := (belA (bel0 w13) (.cells #[] 40)).trans hb14x; have y14 := keep1 hb14 y13; have f14 := own_frozen (own_below Y13.out hb14 (Nat.le_refl _)) j; have O14 := Lib.hid own14; clear own14 hg14 hor14 hb14x)
    obtain ⟨rp, hrp⟩ : ∃ q : PgD, q = ⟨g14, c14, p.xs.take m, m, c14⟩ := ⟨_, rfl⟩
    have hrv : rp.val = .slice (some ⟨g14, 0, none⟩) (m) c14 := by rw [hrp]; rfl
    have hrl : (p.xs.take m).length = m := by rw [List.length_take]; omega
    have hrd : OwnD w14 lo rp := by
      rw [hrp]
      refine ⟨?_, by simp only [hrl]; exact Nat.le_refl _⟩
      simp only [hrl]
      exact own_more O14.out l13
    have HP14 := HP13.out.set kb (gb_new hb14) hrd (.inr (by rw [hrp]; exact (own_some O14.out).1))
    have Y14 := own_below Y13.out hb14 (Nat.le_refl _)
    have HP15 := Lib.hid (HP14.app Y14 (show w14.grownBy (w14.setCell ⟨g0, j, none⟩ (.slice (some ⟨g14, 0, none⟩) (m) c14)) (some g0) from only_sc (grown_refl _ _) j _))
    have y := own_set Y14 j rp.val
    rw [PV_set, hrv] at y
    have Y15 := Lib.hid y
    have B15 := Lib.hid ((B13.out.trans (hb14.mono l13)).setCell (p := ⟨g0, j, none⟩) lg0 (.slice (some ⟨g14, 0, none⟩) (m) c14))
    have hz15 := Lib.hid (hz13.out.set (k := j) (q := rp) (by rw [hrp]; exact ⟨⟨hrl.symm, rfl⟩, by simp only [hrl]; omega, by simp only [hrl]; omega, fun x hx => Np.out x (List.mem_of_mem_take hx)⟩))
    have hsl2 : ((L.set k q).set j rp).length = n := by rw [List.length_set]; exact Hs.out
    have HS := Lib.hid (hz15.out.sm (by omega))
    refine bodyPost_ret (v := .slice (some ⟨g0, 0, none⟩) n c0) (by simp [results, Tryz.results91, go_sem]) rfl ⟨fillOut_end HP15.out hsl2 Y15.out HS.out, B15.out⟩

set_option maxRecDepth 100000 in
set_option maxHeartbeats 4000000 in
theorem fill_b (N lo g0 n c0 k : Nat) (L : List PgD) (w : World) (hN : L.length = n) (h8 : n ≤ 8) (hk : k < n) (hz : FzL N L) (HO : OwnP w lo L) (HY : w.ownsRow lo 30 1 (.slice (some ⟨g0, 0, none⟩) n c0) n (PV L))
    (hb : n = 1 ∨ ∀ (h : k < L.length), 2 ≤ L[k].xs.length) :
    Calls Tryz.prog 91 #[.slice (some ⟨g0, 0, none⟩) n c0, .int .i64 k] w fun r w' => FillOut N lo r w' ∧ Below lo w w' := by
  have hf := hz.f
  have hO := Lib.hid HO
  have hY := Lib.hid HY
  have hZ := Lib.hid hz
  have hlo : lo ≤ w.heap.size := by have := HY.lt g0 rfl; omega
  have lg0 := (HY.lt g0 rfl).1
  have lg1 := (HY.lt g0 rfl).2
  have kL : k < L.length := by omega
  have q0 : (0 : Int) ≤ (k : Int) := by omega
  have q1 : (k : Int) < (n : Int) := by omega
  obtain ⟨a, ha, ma, da, va, ya, ca, nea⟩ := pgf HO HY hf (k := k) (kL)
  have oa := Lib.hid da.1
  obtain ⟨fa, za, la, na⟩ := hz _ ma
  have Na := Lib.hid na
  clear na
  have e1 : (((a.xs.length : Nat) : Int) == 0) = false := beq_eq_false_iff_ne.2 (by omega)
  have HS := Lib.hid (hz.sm (by omega))
  rcases Decidable.em (n = 1) with e2 | e2
  · subst e2
    have e3 : (((1 : Nat) : Int) == 1) = true := rfl
    clear HO HY hz hf hb ha va ca
    go_enter Tryz.func91, Tryz.ntmps91
    go_wp2
    refine bodyPost_ret (v := .slice (some ⟨g0, 0, none⟩) 1 c0) (by simp [results, Tryz.results91, go_sem]) rfl ⟨fillOut_end hO.out hN hY.out HS.out, Below.refl _ _⟩
  · have e3 : ((n : Int) == 1) = false := beq_eq_false_iff_ne.2 (by omega)
    have e4 : 2 ≤ a.xs.length := by rcases hb with h | h; exact absurd h e2; have := h kL; rw [ha] at this; exact this
    have e5 : ((a.xs.length : Nat) : Int) ≥ 2 := by omega
    have e6 : (2 : Int) ≤ ((a.xs.length : Nat) : Int) := by omega
    clear HO HY hz hf hb ha va ca
    go_enter Tryz.func91, Tryz.ntmps91
    go_wp2
    refine bodyPost_ret (v := .slice (some ⟨g0, 0, none⟩) n c0) (by simp [results, Tryz.results91, go_sem]) rfl ⟨fillOut_end hO.out hN hY.out HS.out, Below.refl _ _⟩

set_option maxRecDepth 100000 in
set_option maxHeartbeats 4000000 in
theorem fill_0 (N lo g0 c0 c : Nat) (A : Option Addr) (w : World) (hlo : lo ≤ w.heap.size) (HY : w.cell? ⟨g0, 0, none⟩ = some (.slice A 0 c)) :
    Calls Tryz.prog 91 #[.slice (some ⟨g0, 0, none⟩) 1 c0, .int .i64 0] w fun r w' => FillOut N lo r w' ∧ Below lo w w' := by
  go_enter Tryz.func91, Tryz.ntmps91
  go_wp2
  refine bodyPost_ret (v := .slice (some ⟨w.heap.size, 0, none⟩) 0 0) (by simp [results, Tryz.results91, go_sem]) rfl ⟨fillOut_end (M := []) (OwnP.nil_ _ _) rfl (own_lit0 w 30 1 lo hlo) ⟨by simp, fun p hp => absurd hp (List.not_mem_nil)⟩, (Below.refl lo w).alloc hlo _⟩

theorem fill_any (N lo g0 n c0 k : Nat) (L : List PgD) (w : World) (hN : L.length = n) (h8 : n ≤ 8) (hk : k < n) (hz : FzL N L) (HO : OwnP w lo L) (HY : w.ownsRow lo 30 1 (.slice (some ⟨g0, 0, none⟩) n c0) n (PV L)) :
    Calls Tryz.prog 91 #[.slice (some ⟨g0, 0, none⟩) n c0, .int .i64 k] w fun r w' => FillOut N lo r w' ∧ Below lo w w' := by
  have kL : k < L.length := by omega
  by_cases hb : n = 1 ∨ ∀ (h : k < L.length), 2 ≤ L[k].xs.length
  · exact fill_b N lo g0 n c0 k L w hN h8 hk hz HO HY hb
  · have n1 : n ≠ 1 := fun h => hb (.inl h)
    have h1 : ∀ (h : k < L.length), L[k].xs.length = 1 := fun h => by
      have := (hz _ (List.getElem_mem h)).2.1
      rcases Nat.lt_or_ge L[k].xs.length 2 with h2 | h2
      · exact Nat.le_antisymm (Nat.le_of_lt_succ h2) this
      · exact absurd (.inr (fun _ => h2)) hb
    clear hb
    have pL : k - 1 < L.length := by omega
    by_cases hc : k + 1 < n
    · have bL : k + 1 < L.length := by omega
      by_cases h2 : 2 < L[k + 1].xs.length
      · exact fill_1 N lo g0 n c0 k L w hN h8 hk hz HO HY hc h1 (fun _ => h2)
      · rcases Nat.eq_zero_or_pos k with k0 | k0
        · exact fill_3a N lo g0 n c0 k L w hN h8 hk hz HO HY hc h1 (fun _ => h2) k0
        · by_cases h3 : 2 < L[k - 1].xs.length
          · exact fill_2b N lo g0 n c0 k L w hN h8 hk hz HO HY hc h1 k0 (fun _ => h2) (fun _ => h3)
          · exact fill_3b N lo g0 n c0 k L w hN h8 hk hz HO HY hc h1 (fun _ => h2) k0 (fun _ => h3)
    · have hc' : k + 1 = n := by omega
      have k0 : 0 < k := by omega
      by_cases h3 : 2 < L[k - 1].xs.length
      · exact fill_2a N lo g0 n c0 k L w hN h8 hk hz HO HY hc' h1 k0 (fun _ => h3)
      · exact fill_4 N lo g0 n c0 k L w hN h8 hk hz HO HY hc' h1 k0 (fun _ => h3)

end Go.Proofs.YtbchbmcphbeikaaGreatDoor
