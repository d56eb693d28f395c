/- Books of a call's own: held between two marks, marked, looked through. -/
import Derived.Test.YthdbomkddpnhaaaGreatDoorBook
import Derived.Test.YthdbomkddpnhaaaGreatDoorHeld
namespace Go.Proofs.YthdbomkddpnhaaaGreatDoor
open Go Go.RowKit

set_option maxRecDepth 100000 in
set_option maxHeartbeats 1000000 in
theorem markWriteS_v (base : Nat) (A : Option Addr) (n c : Nat) (xs : List Value) (k : Int) (hk0 : 0 ≤ k) (hk : k ≤ 100000000) (hn : n ≤ 10000000) (w : World) (hown : w.ownsRow base 109 2 (.slice A n c) n xs) :
    Calls Tryz.prog 92 #[.slice A n c, .int .i64 k] w fun e w' => e = .returned (.int .i64 (k + 2 * (n : Int))) ∧ w'.ownsRow base 109 2 (.slice A n c) n (RS (marksR k n)) ∧ w.grownBy w' (Value.slice A n c).ownBlock := by
  rcases Nat.eq_zero_or_pos n with h0 | h0
  · subst h0
    have hx : xs = [] := List.eq_nil_of_length_eq_zero (by have := hown.1; omega)
    subst hx
    have Hown := Lib.hid hown
    clear hown
    go_enter Tryz.func92, Tryz.ntmps92
    go_wp2
    refine wp_loop_rounds 1 ?_
    rw [rounds_succ]
    go_wp2
    go_ret
    exact ⟨ret_int (by simp), Hown.out, grown_refl _ _⟩
  · obtain ⟨g, c', he⟩ := own_form1 hown h0
    simp only [Value.slice.injEq] at he
    obtain ⟨rfl, _, rfl⟩ := he
    have hl := hown.1
    have Hown := Lib.hid hown
    clear hown
    go_enter Tryz.func92, Tryz.ntmps92
    go_wp2
    go_loopw [1, 5] (fun m i wr => ∃ (j : Nat) (q : Int), j ≤ n ∧ i = .int .i64 j ∧ m = .int .i64 q ∧ Hid (q = k + 2 * j) ∧ wr.ownsRow base 109 2 (.slice (some ⟨g, 0, none⟩) n c) n (RS (marksR k j) ++ xs.drop (j * 2)) ∧ w.grownBy wr (some g))
      (fun _ i _ => n - (intOf i).toNat)
    case atStart => exact ⟨0, k, by omega, rfl, rfl, by simp [Hid], by simpa [marksR, RS] using Hown.out, grown_refl _ _⟩
    case round =>
      obtain ⟨j, q, hj, rfl, rfl, hq, hown, hg⟩ := hrel
      have hq' := hq.out
      have b0 : 0 ≤ q := by omega
      have b1 : q ≤ 200000000 := by omega
      clear hq'
      by_cases hlt : j < n
      · obtain ⟨⟨u0, c0⟩, ⟨u1, c1⟩⟩ := own_cells2 hown j hlt
        have f0 := own_frozen hown (j * 2)
        have f1 := own_frozen hown (j * 2 + 1)
        have q0 : (0 : Int) ≤ ↑j := by omega
        have q1 : (↑j : Int) < ↑n := by omega
        go_wp2_with fail
        refine (markText_any _ (by omega) _).mono ?_
        rintro e w1 ⟨rfl, hb1⟩
        have own1 := own_below (own_set hown (j * 2) (.int .i64 q)) hb1 (Nat.le_refl _)
        have hg1 := gb_below (only_sc hg (j * 2) (.int .i64 q)) hb1
        have own2 := own_set own1 (j * 2 + 1) (.string (markB (q + 1)))
        have hes : ((RS (marksR k j) ++ xs.drop (j * 2)).set (j * 2) (.int .i64 q)).set (j * 2 + 1) (.string (markB (q + 1))) = RS (marksR k (j + 1)) ++ xs.drop ((j + 1) * 2) := by
          have := RS_set2 (marksR k j) xs (markR q) (marksR_len k j) hlt hl
          rw [marksR_succ, ← hq.out]; exact this
        rw [hes] at own2
        have hg2 := only_sc hg1 (j * 2 + 1) (.string (markB (q + 1)))
        clear c0 c1 f0 f1
        obtain ⟨⟨u0, c0⟩, ⟨u1, c1⟩⟩ := own_cells2 own1 j hlt
        have f1 := own_frozen own1 (j * 2 + 1)
        have Own2 := Lib.hid own2
        clear own1 own2 hown
        go_wp2_with fail
        go_roundw
        case rel => exact ⟨j + 1, q + 1 + 1, by omega, by go_num, by go_num, by have := hq.out; show _ = _; omega, Own2.out, hg2⟩
        case measure => simp [intOf]; omega
      · obtain rfl : j = n := by omega
        rw [List.drop_eq_nil_of_le (by omega), List.append_nil] at hown
        go_wp2
        go_ret
        exact ⟨ret_int hq.out, hown, hg⟩

set_option maxRecDepth 100000 in
set_option maxHeartbeats 1000000 in
theorem heldWriteS_any (A : Option Addr) (n c : Nat) (k : Int) (hk0 : 0 ≤ k) (hk : k ≤ 100000000) (hn : n ≤ 10000000) (w : World) (hr : Reads w w.heap.size 2 A n (RS (marksR k n))) :
    Calls Tryz.prog 94 #[.slice A n c, .int .i64 k] w fun e w' => e = .returned (.int .i64 (k + 2 * (n : Int))) ∧ Below w.heap.size w w' := by
  have Hr := Lib.hid hr
  clear hr
  go_enter Tryz.func94, Tryz.ntmps94
  go_wp2
  go_loopw [1, 5] (fun m i wr => ∃ (j : Nat) (q : Int), j ≤ n ∧ i = .int .i64 j ∧ m = .int .i64 q ∧ Hid (q = k + 2 * j) ∧ Below w.heap.size w wr)
    (fun _ i _ => n - (intOf i).toNat)
  case atStart => exact ⟨0, k, by omega, rfl, rfl, by simp [Hid], bel0 w⟩
  case round =>
    obtain ⟨j, q, hj, rfl, rfl, hq, hbel⟩ := hrel
    have hq' := hq.out
    have b0 : 0 ≤ q := by omega
    have b1 : q ≤ 200000000 := by omega
    clear hq'
    by_cases hlt : j < n
    · obtain ⟨hkx, b, o, rfl, hadb, z0, z1⟩ := reads_rec (Hr.out.below hbel) hlt
      rw [marksR_get k n j hlt, ← hq.out] at z0 z1
      simp only [markR] at z0 z1
      have q0 : (0 : Int) ≤ ↑j := by omega
      have q1 : (↑j : Int) < ↑n := by omega
      go_wp2_with fail
      go_region_held3 (fun w' => w'.cell? ⟨b, o + j * 2 + 1, none⟩ = some (.string (markB (q + 1)))) (first | go_keep | exact keep1 hb1 (by go_keep))
        (first
          | (go_at_call 98; refine (markText_any _ (by omega) _).mono ?_; rintro e w1 ⟨rfl, hb1⟩))
      clear z0 z1
      go_wp2
      go_roundw
      case rel => exact ⟨j + 1, q + 1 + 1, by omega, by go_num, by go_num, by have := hq.out; show _ = _; omega, belN hbel.drew hb1⟩
      case measure => simp [intOf]; omega
    · obtain rfl : j = n := by omega
      go_wp2
      go_ret
      exact ⟨ret_int hq.out, hbel⟩

theorem InAt.keep {w w' : World} {lo hi : Nat} {e : TypeId} {s n : Nat} {v : Value} {xs : List Value} {b : Option Nat} (h : InAt (fun w => w.ownsRow lo e s v n xs) lo hi w) (hg : w.grownBy w' b) (hne : v.ownBlock = none ∨ v.ownBlock ≠ b) :
    InAt (fun w => w.ownsRow lo e s v n xs) lo hi w' := by
  refine ⟨Nat.le_trans h.1 hg.size, fun w2 h1 h2 => ?_⟩
  obtain ⟨h3, h4⟩ := h.is
  refine ⟨h3, ?_⟩
  rcases h4 with h4 | ⟨g, cap, cur, hv, hgb, hh, r⟩
  · exact .inl h4
  · have hl := h.lt (g := g) (by rw [hv]; rfl)
    have hgw : g < w.heap.size := (Array.getElem?_eq_some_iff.1 hh).1
    refine .inr ⟨g, cap, cur, hv, hgb, ?_, r⟩
    rw [h2 g hl.1 hl.2, hg.block g hgw (by
      intro e
      have hb : v.ownBlock = some g := by rw [hv]; rfl
      rcases hne with hn | hn
      · rw [hn] at hb; cases hb
      · rw [hb] at hn; exact hn e)]
    exact hh
/-- Two rows do not lie in one block. -/
def Dis (a b : Value) : Prop := a.ownBlock = none ∨ b.ownBlock = none ∨ a.ownBlock ≠ b.ownBlock
theorem Dis.l {a b : Value} (h : Dis a b) : a.ownBlock = none ∨ a.ownBlock ≠ b.ownBlock := by
  rcases h with h | h | h
  · exact .inl h
  · rcases ha : a.ownBlock with _ | g
    · exact .inl rfl
    · exact .inr (by rw [h]; simp)
  · exact .inr h
theorem Dis.symm {a b : Value} (h : Dis a b) : Dis b a := by
  rcases h with h | h | h
  · exact .inr (.inl h)
  · exact .inl h
  · exact .inr (.inr fun e => h e.symm)
/-- The rows of a book. -/
def BkV (B : BookD) (v v1 v2 v3 v4 : Value) : Prop := ∃ A1 c1 A2 c2 A3 c3 A4 c4, v1 = .slice A1 B.rg.length c1 ∧ v2 = .slice A2 B.hm.length c2 ∧ v3 = .slice A3 B.pd.length c3 ∧ v4 = .slice A4 B.dr.length c4 ∧
  v = .agg #[v1, v2, v3, v4, .int .i64 B.sq, .int .i64 B.bs, .int .i64 B.sf, .int .i64 B.at_, .int .i64 B.df]
/-- A book of a call's own. -/
def OwnBk (lo : Nat) (v : Value) (B : BookD) (w : World) : Prop := ∃ v1 v2 v3 v4, BkV B v v1 v2 v3 v4 ∧
  w.ownsRow lo 9 1 v1 B.rg.length (SS B.rg) ∧ w.ownsRow lo 9 1 v2 B.hm.length (SS B.hm) ∧ w.ownsRow lo 109 2 v3 B.pd.length (RS B.pd) ∧ w.ownsRow lo 72 4 v4 B.dr.length (ES B.dr) ∧
  Dis v1 v2 ∧ Dis v1 v3 ∧ Dis v1 v4 ∧ Dis v2 v3 ∧ Dis v2 v4 ∧ Dis v3 v4
theorem OwnBk.isBk {lo : Nat} {v : Value} {B : BookD} {w : World} (h : OwnBk lo v B w) : IsBook w v B := by
  obtain ⟨v1, v2, v3, v4, ⟨A1, c1, A2, c2, A3, c3, A4, c4, rfl, rfl, rfl, rfl, rfl⟩, h1, h2, h3, h4, _⟩ := h
  exact ⟨A1, c1, A2, c2, A3, c3, A4, c4, rfl, own_rd h1, own_rd h2, own_rd h3, own_rd h4⟩
/-- Its rows, each held. -/
def BkH (lo up : Nat) (v : Value) (B : BookD) (w : World) : Prop := ∃ v1 v2 v3 v4, BkV B v v1 v2 v3 v4 ∧
  InAt (fun w => w.ownsRow lo 9 1 v1 B.rg.length (SS B.rg)) lo up w ∧ InAt (fun w => w.ownsRow lo 9 1 v2 B.hm.length (SS B.hm)) lo up w ∧
  InAt (fun w => w.ownsRow lo 109 2 v3 B.pd.length (RS B.pd)) lo up w ∧ InAt (fun w => w.ownsRow lo 72 4 v4 B.dr.length (ES B.dr)) lo up w ∧
  Dis v1 v2 ∧ Dis v1 v3 ∧ Dis v1 v4 ∧ Dis v2 v3 ∧ Dis v2 v4 ∧ Dis v3 v4
theorem BkH.inAt {lo up : Nat} {v : Value} {B : BookD} {w : World} (h : BkH lo up v B w) : InAt (OwnBk lo v B) lo up w := by
  obtain ⟨v1, v2, v3, v4, h0, h1, h2, h3, h4, hd⟩ := h
  exact ⟨h1.1, fun w' a b => ⟨v1, v2, v3, v4, h0, h1.2 w' a b, h2.2 w' a b, h3.2 w' a b, h4.2 w' a b, hd⟩⟩
theorem BkH.of {lo up : Nat} {v : Value} {B : BookD} {w : World} (h : InAt (OwnBk lo v B) lo up w) : BkH lo up v B w := by
  obtain ⟨v1, v2, v3, v4, h0, _, _, _, _, hd⟩ := h.is
  have key : ∀ w', OwnBk lo v B w' → w'.ownsRow lo 9 1 v1 B.rg.length (SS B.rg) ∧ w'.ownsRow lo 9 1 v2 B.hm.length (SS B.hm) ∧ w'.ownsRow lo 109 2 v3 B.pd.length (RS B.pd) ∧ w'.ownsRow lo 72 4 v4 B.dr.length (ES B.dr) := by
    intro w' hw
    obtain ⟨u1, u2, u3, u4, g0, g1, g2, g3, g4, _⟩ := hw
    obtain ⟨_, _, _, _, _, _, _, _, _, _, _, _, e⟩ := h0
    obtain ⟨_, _, _, _, _, _, _, _, _, _, _, _, e'⟩ := g0
    rw [e] at e'
    simp only [Value.agg.injEq, Array.mk.injEq, List.cons.injEq, and_true] at e'
    obtain ⟨rfl, rfl, rfl, rfl, _⟩ := e'
    exact ⟨g1, g2, g3, g4⟩
  exact ⟨v1, v2, v3, v4, h0, ⟨h.1, fun w' a b => (key _ (h.2 w' a b)).1⟩, ⟨h.1, fun w' a b => (key _ (h.2 w' a b)).2.1⟩, ⟨h.1, fun w' a b => (key _ (h.2 w' a b)).2.2.1⟩, ⟨h.1, fun w' a b => (key _ (h.2 w' a b)).2.2.2⟩, hd⟩
/-- A book marked from k on. -/
def markBk (k : Int) (B : BookD) : BookD := ⟨marks k B.rg.length, marks (k + B.rg.length) B.hm.length, marksR (k + B.rg.length + B.hm.length) B.pd.length, marksD (k + B.rg.length + B.hm.length + 2 * (B.pd.length : Int)) B.dr.length, B.sq, B.bs, B.sf, B.at_, B.df⟩
def cntBk (B : BookD) : Int := B.rg.length + B.hm.length + 2 * (B.pd.length : Int) + 4 * (B.dr.length : Int)
def BkSmall (B : BookD) : Prop := B.rg.length ≤ 1048576 ∧ B.hm.length ≤ 1048576 ∧ B.pd.length ≤ 1048576 ∧ B.dr.length ≤ 1048576
theorem Betw.tr {lo hi : Nat} {w w1 w2 : World} (h : Betw lo hi w w1) (h' : Betw lo hi w1 w2) : Betw lo hi w w2 :=
  ⟨h'.os.trans h.os, h'.tape.trans h.tape, h'.output.trans h.output, Nat.le_trans h.size h'.size, fun i h1 h2 => (h'.block i (Nat.lt_of_lt_of_le h1 h.size) h2).trans (h.block i h1 h2)⟩
theorem Betw.of_below {lo hi : Nat} {w w1 : World} (h : Below w.heap.size w w1) : Betw lo hi w w1 := ⟨h.os, h.tape, h.output, h.size, fun i h1 _ => h.block i h1⟩

set_option maxRecDepth 100000 in
set_option maxHeartbeats 4000000 in
theorem markBk_in (v : Value) (B : BookD) (hn : BkSmall B) (k : Int) (hk0 : 0 ≤ k) (hk : k ≤ 1000000) (lo up : Nat) (w : World) (h : InAt (OwnBk lo v B) lo up w) :
    Calls Tryz.prog 30 #[v, .int .i64 k] w fun e w' => e = .returned (.int .i64 (k + cntBk B)) ∧ InAt (OwnBk lo v (markBk k B)) lo up w' ∧ Betw lo up w w' := by
  have hup := h.1
  obtain ⟨v1, v2, v3, v4, hv, h1, h2, h3, h4, d12, d13, d14, d23, d24, d34⟩ := BkH.of h
  obtain ⟨n1, n2, n3, n4⟩ := hn
  clear h
  obtain ⟨A1, c1, A2, c2, A3, c3, A4, c4, e1, e2, e3, e4, rfl⟩ := hv
  obtain ⟨rg, hm, pd, dr, sq, bs, sf, at_, df⟩ := B
  simp only at n1 n2 n3 n4 e1 e2 e3 e4 h1 h2 h3 h4 ⊢
  subst e1 e2 e3 e4
  have D12 := Lib.hid d12
  have D13 := Lib.hid d13
  have D14 := Lib.hid d14
  have D23 := Lib.hid d23
  have D24 := Lib.hid d24
  have D34 := Lib.hid d34
  clear d12 d13 d14 d23 d24 d34
  obtain ⟨W1, hW1⟩ : ∃ W1, w.alloc (.cells #[.slice A1 rg.length c1, .slice A2 hm.length c2, .slice A3 pd.length c3, .slice A4 dr.length c4, .int .i64 sq, .int .i64 bs, .int .i64 sf, .int .i64 at_, .int .i64 df] 50) = W1 := ⟨_, rfl⟩
  have B1 : Below w.heap.size w W1 := by rw [← hW1]; exact belA (bel0 w) _
  have hV : Blk W1 w.heap.size 50 #[.slice A1 rg.length c1, .slice A2 hm.length c2, .slice A3 pd.length c3, .slice A4 dr.length c4, .int .i64 sq, .int .i64 bs, .int .i64 sf, .int .i64 at_, .int .i64 df] := by rw [← hW1]; exact Blk.new' _ _ _ _ rfl
  have K1 := Lib.hid (h1.next B1)
  have K2 := Lib.hid (h2.next B1)
  have K3 := Lib.hid (h3.next B1)
  have K4 := Lib.hid (h4.next B1)
  have L1 := Lib.hid (fun g hg => (h1.lt (g := g) hg))
  have L2 := Lib.hid (fun g hg => (h2.lt (g := g) hg))
  have L3 := Lib.hid (fun g hg => (h3.lt (g := g) hg))
  have HW1 := Lib.hid hW1
  have x0 := hV.get 0 rfl
  have HV := Lib.hid hV
  clear hW1 hV h1 h2 h3 h4
  go_enter Tryz.func30, Tryz.ntmps30
  go_wp2_with fail
  rw [HW1.out]
  refine (markStringS_any lo _ rg.length _ k hk0 (by omega) (by omega) W1 K1.out.is).mono ?_
  rintro e w2 ⟨rfl, ho, hg⟩
  have hne : some w.heap.size ≠ (Value.slice A1 rg.length c1).ownBlock := fun e => by have := (L1.out _ e.symm).2; omega
  have HV2 := Lib.hid (HV.out.grown hg hne)
  obtain ⟨i1, t2⟩ := K1.out.grow ho hg
  have I1 := Lib.hid i1
  have I2 := Lib.hid (K2.out.keep hg D12.out.symm.l)
  have I3 := Lib.hid (K3.out.keep hg D13.out.symm.l)
  have I4 := Lib.hid (K4.out.keep hg D14.out.symm.l)
  have T2 := Lib.hid ((Betw.of_below B1).tr t2)
  clear i1 t2 hne ho hg K1 K2 K3 K4 HV x0
  have x1 := HV2.out.get 1 rfl
  go_wp2_with fail
  refine (markStringS_any lo _ hm.length _ (k + rg.length) (by omega) (by omega) (by omega) w2 I2.out.is).mono ?_
  rintro e w3 ⟨rfl, ho, hg⟩
  have hne : some w.heap.size ≠ (Value.slice A2 hm.length c2).ownBlock := fun e => by have := (L2.out _ e.symm).2; omega
  have HV3 := Lib.hid (HV2.out.grown hg hne)
  obtain ⟨i2, t3⟩ := I2.out.grow ho hg
  have J1 := Lib.hid (I1.out.keep hg D12.out.l)
  have J2 := Lib.hid i2
  have J3 := Lib.hid (I3.out.keep hg D23.out.symm.l)
  have J4 := Lib.hid (I4.out.keep hg D24.out.symm.l)
  have T3 := Lib.hid (T2.out.tr t3)
  clear i2 t3 hne ho hg I1 I2 I3 I4 HV2 x1 T2
  have x2 := HV3.out.get 2 rfl
  go_wp2_with fail
  refine (markWriteS_v lo A3 pd.length c3 _ (k + rg.length + hm.length) (by omega) (by omega) (by omega) w3 J3.out.is).mono ?_
  rintro e w4 ⟨rfl, ho, hg⟩
  have hne : some w.heap.size ≠ (Value.slice A3 pd.length c3).ownBlock := fun e => by have := (L3.out _ e.symm).2; omega
  have HV4 := Lib.hid (HV3.out.grown hg hne)
  obtain ⟨i3, t4⟩ := J3.out.grow ho hg
  have I1 := Lib.hid (J1.out.keep hg D13.out.l)
  have I2 := Lib.hid (J2.out.keep hg D23.out.l)
  have I3 := Lib.hid i3
  have I4 := Lib.hid (J4.out.keep hg D34.out.symm.l)
  have T4 := Lib.hid (T3.out.tr t4)
  clear i3 t4 hne ho hg J1 J2 J3 J4 HV3 x2 T3
  have x3 := HV4.out.get 3 rfl
  go_wp2_with fail
  refine (markEntS_v lo A4 dr.length c4 _ (k + rg.length + hm.length + 2 * (pd.length : Int)) (by omega) (by omega) (by omega) w4 I4.out.is).mono ?_
  rintro e w5 ⟨rfl, ho, hg⟩
  obtain ⟨i4, t5⟩ := I4.out.grow ho hg
  have J1 := Lib.hid (I1.out.keep hg D14.out.l)
  have J2 := Lib.hid (I2.out.keep hg D24.out.l)
  have J3 := Lib.hid (I3.out.keep hg D34.out.l)
  have J4 := Lib.hid i4
  have T5 := Lib.hid (T4.out.tr t5)
  clear i4 t5 ho hg I1 I2 I3 I4 HV4 x3 T4
  go_wp2
  go_ret
  refine ⟨ret_int (by unfold cntBk; simp only; omega), BkH.inAt ⟨_, _, _, _, ⟨A1, c1, A2, c2, A3, c3, A4, c4, ?_, ?_, ?_, ?_, rfl⟩, ?_, ?_, ?_, ?_, D12.out, D13.out, D14.out, D23.out, D24.out, D34.out⟩, T5.out⟩
  · show _ = Value.slice _ (markBk k _).rg.length _; unfold markBk; simp only [marks_len]
  · show _ = Value.slice _ (markBk k _).hm.length _; unfold markBk; simp only [marks_len]
  · show _ = Value.slice _ (markBk k _).pd.length _; unfold markBk; simp only [marksR_len]
  · show _ = Value.slice _ (markBk k _).dr.length _; unfold markBk; simp only [marksD_len]
  · unfold markBk; simp only [marks_len]; exact J1.out
  · unfold markBk; simp only [marks_len]; exact J2.out
  · unfold markBk; simp only [marksR_len]; exact J3.out
  · unfold markBk; simp only [marksD_len]; exact J4.out


set_option maxRecDepth 100000 in
set_option maxHeartbeats 4000000 in
theorem heldBk_in (v : Value) (B : BookD) (hn : BkSmall B) (k : Int) (hk0 : 0 ≤ k) (hk : k ≤ 1000000) (w : World) (h : IsBook w v (markBk k B)) :
    Calls Tryz.prog 31 #[v, .int .i64 k] w fun e w' => e = .returned (.int .i64 (k + cntBk B)) ∧ Below w.heap.size w w' := by
  obtain ⟨A1, c1, A2, c2, A3, c3, A4, c4, rfl, h⟩ := h
  obtain ⟨n1, n2, n3, n4⟩ := hn
  obtain ⟨rg, hm, pd, dr, sq, bs, sf, at_, df⟩ := B
  simp only at n1 n2 n3 n4
  obtain ⟨h1, h2, h3, h4⟩ := h
  simp only [markBk, marks_len, marksR_len, marksD_len] at h1 h2 h3 h4 ⊢
  obtain ⟨W1, hW1⟩ : ∃ W1, w.alloc (.cells #[.slice A1 rg.length c1, .slice A2 hm.length c2, .slice A3 pd.length c3, .slice A4 dr.length c4, .int .i64 sq, .int .i64 bs, .int .i64 sf, .int .i64 at_, .int .i64 df] 50) = W1 := ⟨_, rfl⟩
  have B1 : Below w.heap.size w W1 := by rw [← hW1]; exact belA (bel0 w) _
  have hV : Blk W1 w.heap.size 50 #[.slice A1 rg.length c1, .slice A2 hm.length c2, .slice A3 pd.length c3, .slice A4 dr.length c4, .int .i64 sq, .int .i64 bs, .int .i64 sf, .int .i64 at_, .int .i64 df] := by rw [← hW1]; exact Blk.new' _ _ _ _ rfl
  have H1 := Lib.hid h1
  have H2 := Lib.hid h2
  have H3 := Lib.hid h3
  have H4 := Lib.hid h4
  have HW1 := Lib.hid hW1
  have x0 := hV.get 0 rfl
  have HV := Lib.hid hV
  clear hW1 hV h1 h2 h3 h4
  go_enter Tryz.func31, Tryz.ntmps31
  go_wp2_with fail
  rw [HW1.out]
  refine (heldStringS_any A1 rg.length c1 k hk0 (by omega) (by omega) W1 ((H1.out.below B1).more B1.size)).mono ?_
  rintro e w2 ⟨rfl, hb⟩
  have b2 := belN B1 hb
  have HV2 := Lib.hid (HV.out.below hb HV.out.lt)
  clear hb HV x0
  have q1 : ¬ k + (rg.length : Int) < 0 := by omega
  have x1 := HV2.out.get 1 rfl
  go_wp2_with fail
  refine (heldStringS_any A2 hm.length c2 (k + rg.length) (by omega) (by omega) (by omega) w2 ((H2.out.below b2).more b2.size)).mono ?_
  rintro e w3 ⟨rfl, hb⟩
  have b3 := belN b2 hb
  have HV3 := Lib.hid (HV2.out.below hb HV2.out.lt)
  clear hb HV2 x1
  have q2 : ¬ k + (rg.length : Int) + hm.length < 0 := by omega
  have x2 := HV3.out.get 2 rfl
  go_wp2_with fail
  refine (heldWriteS_any A3 pd.length c3 (k + rg.length + hm.length) (by omega) (by omega) (by omega) w3 ((H3.out.below b3).more b3.size)).mono ?_
  rintro e w4 ⟨rfl, hb⟩
  have b4 := belN b3 hb
  have HV4 := Lib.hid (HV3.out.below hb HV3.out.lt)
  clear hb HV3 x2
  have q3 : ¬ k + (rg.length : Int) + hm.length + 2 * (pd.length : Int) < 0 := by omega
  have x3 := HV4.out.get 3 rfl
  go_wp2_with fail
  refine (heldEntS_any A4 dr.length c4 (k + rg.length + hm.length + 2 * (pd.length : Int)) (by omega) (by omega) (by omega) w4 ((H4.out.below b4).more b4.size)).mono ?_
  rintro e w5 ⟨rfl, hb⟩
  have b5 := belN b4 hb
  have q4 : ¬ k + (rg.length : Int) + hm.length + 2 * (pd.length : Int) + 4 * (dr.length : Int) < 0 := by omega
  clear hb HV4 x3
  go_wp2
  go_ret
  exact ⟨ret_int (by unfold cntBk; simp only; omega), b5⟩

end Go.Proofs.YthdbomkddpnhaaaGreatDoor
